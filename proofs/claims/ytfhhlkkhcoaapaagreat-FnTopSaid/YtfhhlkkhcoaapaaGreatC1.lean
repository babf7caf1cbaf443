/- The walk of what the law reaches: contracts of functions. -/
import Derived.Test.YtfhhlkkhcoaapaaGreatK2
import Derived.Test.YtfhhlkkhcoaapaaGreatShelfS
import Derived.Test.YtfhhlkkhcoaapaaGreatProg
set_option linter.unusedVariables false
set_option linter.unusedSimpArgs false
set_option maxRecDepth 20000
set_option maxHeartbeats 400000
namespace Go.Proofs.YtfhhlkkhcoaapaaGreat
open Go Go.Proofs.Tryz
open Flat (enc)
noncomputable section
universe u
theorem R {α : Sort u} {a : α} : a = a:=rfl
abbrev V16:=Vector UInt8 16
abbrev V32:=Vector UInt8 32
abbrev V256:=Vector UInt8 256
abbrev V44:=Vector (Vector UInt8 4) 4
theorem Env.s {n : Nat} {a : Act} {e e' : List (Nat × Value)} (h : Env n a e) (hs : yN e e' := by repeat (first | exact trivial | refine ⟨rfl,?_⟩)) : Env n a e':=h.sub hs
theorem k_s {n : Nat} {a : Act} {e : List (Nat × Value)} {w : World} {P : Program} {ops : Array Oper} {rest : List Oper} {Q : Exit → Act → World → Prop} (h : Env n a e) {j t d : Nat} {q b b' : Bool} {x : Op} {ty : TypeId} {p : String} {af : Array Edge} (hk : q = b) (hj : (ops[j]?).bind (·.dst) = some t) (ht : e.lookup t = some (.bool q)) (hb : b = !b') (k : ∀ a, Env n a ((d, undef) :: e) → wpList P ops Q rest a w) (hd : d < n := by decide) : wpList P ops Q (⟨some d, x, ty, p, af, some (j, b')⟩ :: rest) a w:=Zj h hj (lkb ht hk) hb hd k
theorem q_1 {a b : List Value} {n : Nat} (h1 : a.length = n) (h2 : b.length = n) : 0 + a.length ≤ b.length:=Nat.le_of_eq ((Nat.zero_add _).trans (h1.trans h2.symm))
theorem q_2 {a b : List Value} {n : Nat} (h1 : a.length = n) (h2 : b.length = n) : Y7 b 0 a = a:=Zg (h1.trans h2.symm)
theorem c_if {n : Nat} {a : Act} {e : List (Nat × Value)} {w : World} {P : Program} {Q : Exit → Act → World → Prop} {T : Type} {A B : Option T} {r : T} {X Y : Code} {x : Operand} {c : Bool} (h : Env n a e) (hx : opv e x = some (vT c)) (J : (if c = true then A else B) = some r) (h1 : c = true → A = some r → X.wp P Q a w) (h2 : c = false → B = some r → Y.wp P Q a w) : (Code.cond x X Y).wp P Q a w:=Zq h hx (fun k => h1 k (Zt J k)) (fun k => h2 k (Zs J k))
theorem c_k {n : Nat} {a : Act} {e : List (Nat × Value)} {w : World} {P : Program} {ops : Array Oper} {rest : List Oper} {Q : Exit → Act → World → Prop} {d : Nat} {ty : TypeId} {pos : String} {af : Array Edge} {f : Nat} {xs : List Operand} {ats : Array TypeId} {vs : List Value} {x : Value} {St : Nat → Prop} {w0 : World} {its : List Item} (h : Env n a e) (hM : M St w0 w its) (hxs : J1 e xs = some vs) (hf : Callable P f) (hc : Calls P f vs.toArray w fun en w' => ∃ v, en = .returned v ∧ (v = x ∧ Kept (Old w) w w')) (k : ∀ w' a, M St w0 w' its → Env n a ((d, x) :: e) → wpList P ops Q rest a w') (hd : d < n := by decide) : wpList P ops Q (⟨some d, .call ⟨.value (.func f), xs.toArray, ats⟩, ty, pos, af, none⟩ :: rest) a w:=Zn h hxs hf hc (fun _ w' a hv hE => k w' a (hM.keep hv.2) (hv.1 ▸ hE)) hd
theorem s_w {α : Type} [Flat α] (q : α) {y0 : α} {n : Nat} {a : Act} {e : List (Nat × Value)} {w w0 : World} {St : Nat → Prop} {its : List Item} {P : Program} {ops : Array Oper} {rest : List Oper} {Q : Exit → Act → World → Prop} {D : TypeDesc} {by_ : Nat} {z : List Value} {b : Nat} {u : Value} {t ty : TypeId} {x y : Operand} {pos : String} {af : Array Edge} {g : Option (Nat × Bool)} (h : Env n a e) (hM : M St w0 w (raw b (enc y0) :: its)) (hw : Goes ops ⟨none, .store t x y, ty, pos, af, g⟩ a) (hx : opv e x = some (ptr b 0)) (hy : opv e y = some u) (hu : u.cells.toList = enc q) (ht : Ty P t D (Flat.n α) by_ z) (k : ∀ w a, M St w0 w (raw b (enc q) :: its) → Env n a e → wpList P ops Q rest a w) : wpList P ops Q (⟨none, .store t x y, ty, pos, af, g⟩ :: rest) a w:=Zk (seg := enc q) (cs' := enc q) h hM hw hx hy hu ht (Flat.len _) (zle flq) (Flat.cell _) (Zg flq) k
theorem M.f_0 {St : Nat → Prop} {w w0 : World} {q : List Item} (h : M St w0 w (q)) : M St w0 w []:=M.fst (l:=[]) h
theorem M.f_1 {St : Nat → Prop} {w w0 : World} {i0 : Item} {q : List Item} (h : M St w0 w (i0 :: q)) : M St w0 w [i0]:=M.fst (l:=[_]) h
theorem M.f_2 {St : Nat → Prop} {w w0 : World} {i0 i1 : Item} {q : List Item} (h : M St w0 w (i0 :: i1 :: q)) : M St w0 w [i0,i1]:=M.fst (l:=[_,_]) h
theorem M.f_3 {St : Nat → Prop} {w w0 : World} {i0 i1 i2 : Item} {q : List Item} (h : M St w0 w (i0 :: i1 :: i2 :: q)) : M St w0 w [i0,i1,i2]:=M.fst (l:=[_,_,_]) h
theorem M.f_4 {St : Nat → Prop} {w w0 : World} {i0 i1 i2 i3 : Item} {q : List Item} (h : M St w0 w (i0 :: i1 :: i2 :: i3 :: q)) : M St w0 w [i0,i1,i2,i3]:=M.fst (l:=[_,_,_,_]) h
theorem M.f_5 {St : Nat → Prop} {w w0 : World} {i0 i1 i2 i3 i4 : Item} {q : List Item} (h : M St w0 w (i0 :: i1 :: i2 :: i3 :: i4 :: q)) : M St w0 w [i0,i1,i2,i3,i4]:=M.fst (l:=[_,_,_,_,_]) h
theorem M.f_6 {St : Nat → Prop} {w w0 : World} {i0 i1 i2 i3 i4 i5 : Item} {q : List Item} (h : M St w0 w (i0 :: i1 :: i2 :: i3 :: i4 :: i5 :: q)) : M St w0 w [i0,i1,i2,i3,i4,i5]:=M.fst (l:=[_,_,_,_,_,_]) h
theorem dd_ {p : Prop} (h : p := by decide) : p:=h
theorem of_ {p : Prop} (h : p := by first | omega | (simp only [Flat.n] <;> omega)) : p:=h
theorem l_c {α : Type} (a : α) (b c : List α) : a :: b ++ c = a :: (b ++ c):=rfl
theorem l_n {α : Type} (b : List α) : [] ++ b = b:=rfl
abbrev f_ (n : String) (t o b : Nat) : Field:={ name := n, type := t, offset := o, embedded := false, tag := "", pkgPath := "", byteOffset := b }
theorem q_t {P : Program} {ops : Array Oper} {n : Nat} {ts : List Nat} {e0 : List (Nat × Value)} {St : Nat → Prop} {w0 : World} {its : List Item} {mk : Mk} {hd : List Oper} {i : Nat} {acc F : List Ent} {o : Oper} {r : List Oper} (h : ∀ {a w} {u : Nat → Value} {D : Nat → Bool}, QC n ts e0 St w0 its mk hd i acc o a w u D → wpList P ops (nrm fun a' w' => ∃ v t, ts[i]? = some t ∧ Env n a' ((t, v) :: (jR ts i acc u o.after.toList ++ KD ts 0 u e0)) ∧ M St w0 w' (its ++ qL mk (XY D i) (V0 u i v)) ∧ True) [o] a w) (k : QS P ops n ts e0 St w0 its mk hd (i + 1) r (.mk (fun _ => True) :: acc) F) : QS P ops n ts e0 St w0 its mk hd i (o :: r) acc F:=qsM (pr := fun _ => True) h k
theorem q_m {P : Program} {ops : Array Oper} {n : Nat} {ts : List Nat} {e0 : List (Nat × Value)} {St : Nat → Prop} {w0 : World} {its : List Item} {mk : Mk} {hd : List Oper} {i : Nat} {acc F : List Ent} {r : List Oper} {d : Nat} {ty : TypeId} {pos : String} {af : Array Edge} {x : Operand} {v : Value} (hx : ∀ u, opv (jR ts i acc u af.toList ++ KD ts 0 u e0) x = some v) (k : QS P ops n ts e0 St w0 its mk hd (i + 1) r (.p0 v :: acc) F) (ht : ts[i]? = some d := by rfl) (hn : d < n := by decide) (hi : (mk.all fun p => p.1.all fun k => k != i) = true := by rfl) : QS P ops n ts e0 St w0 its mk hd i (⟨some d, .move x, ty, pos, af, none⟩ :: r) acc F:=qsP (fun z => Zl z.E Za hn (hx _) (kr0 ht)) k hi
abbrev e_r (q : Value → World → Prop):=fun (en : Ending) w' => ∃ v, en = .returned v ∧ q v w'
theorem at_0 {w : World} {b o n : Nat} {s : List Value} {r : List (List Value)} [CL [] n] (h : At w b o (cat (s :: r))) : At w b (o + n) s:=At.cat (pre:=[]) h ck
theorem at_1 {w : World} {b o n : Nat} {p0 : List Value} {s : List Value} {r : List (List Value)} [CL [p0] n] (h : At w b o (cat (p0 :: s :: r))) : At w b (o + n) s:=At.cat (pre:=[p0]) h ck
theorem at_2 {w : World} {b o n : Nat} {p0 p1 : List Value} {s : List Value} {r : List (List Value)} [CL [p0,p1] n] (h : At w b o (cat (p0 :: p1 :: s :: r))) : At w b (o + n) s:=At.cat (pre:=[p0,p1]) h ck
theorem at_3 {w : World} {b o n : Nat} {p0 p1 p2 : List Value} {s : List Value} {r : List (List Value)} [CL [p0,p1,p2] n] (h : At w b o (cat (p0 :: p1 :: p2 :: s :: r))) : At w b (o + n) s:=At.cat (pre:=[p0,p1,p2]) h ck
theorem at_4 {w : World} {b o n : Nat} {p0 p1 p2 p3 : List Value} {s : List Value} {r : List (List Value)} [CL [p0,p1,p2,p3] n] (h : At w b o (cat (p0 :: p1 :: p2 :: p3 :: s :: r))) : At w b (o + n) s:=At.cat (pre:=[p0,p1,p2,p3]) h ck
theorem at_5 {w : World} {b o n : Nat} {p0 p1 p2 p3 p4 : List Value} {s : List Value} {r : List (List Value)} [CL [p0,p1,p2,p3,p4] n] (h : At w b o (cat (p0 :: p1 :: p2 :: p3 :: p4 :: s :: r))) : At w b (o + n) s:=At.cat (pre:=[p0,p1,p2,p3,p4]) h ck
theorem M.rn2 {α : Type} [Rep α] {St : Nat → Prop} {w w0 : World} {x : α} {c : List Value} {i0 i1 : Item} {q : List Item} (h : M St w0 w (i0 :: i1 :: own NoB x c :: q)) : Ro w x c:=M.ro (pre:=[_,_]) h noB
theorem M.sl0 {α : Type} [Rep α] {St : Nat → Prop} {w w0 : World} {l : List α} {v : Value} {q : List Item} (h : M St w0 w (osl NoB l v :: q)) : Ro w l [v]:=M.sl (pre:=[]) h noB
theorem M.sl1 {α : Type} [Rep α] {St : Nat → Prop} {w w0 : World} {l : List α} {v : Value} {i0 : Item} {q : List Item} (h : M St w0 w (i0 :: osl NoB l v :: q)) : Ro w l [v]:=M.sl (pre:=[_]) h noB
theorem M.sl2 {α : Type} [Rep α] {St : Nat → Prop} {w w0 : World} {l : List α} {v : Value} {i0 i1 : Item} {q : List Item} (h : M St w0 w (i0 :: i1 :: osl NoB l v :: q)) : Ro w l [v]:=M.sl (pre:=[_,_]) h noB
theorem M.sl3 {α : Type} [Rep α] {St : Nat → Prop} {w w0 : World} {l : List α} {v : Value} {i0 i1 i2 : Item} {q : List Item} (h : M St w0 w (i0 :: i1 :: i2 :: osl NoB l v :: q)) : Ro w l [v]:=M.sl (pre:=[_,_,_]) h noB
theorem M.sl4 {α : Type} [Rep α] {St : Nat → Prop} {w w0 : World} {l : List α} {v : Value} {i0 i1 i2 i3 : Item} {q : List Item} (h : M St w0 w (i0 :: i1 :: i2 :: i3 :: osl NoB l v :: q)) : Ro w l [v]:=M.sl (pre:=[_,_,_,_]) h noB
theorem M.su3 {St : Nat → Prop} {w w0 : World} {D : Bool} {A : Item} {i0 i1 i2 : Item} {q : List Item} (h : M St w0 w (i0 :: i1 :: i2 :: opt D A :: q)) (hb : D = true) : M St w0 w (i0 :: i1 :: i2 :: A :: q):=M.sure (pre:=[_,_,_]) h hb
structure GCipher where
 Field : Int
 Box : V256
 Mix : V44
 Places : V16
 Rounds : Int
 deriving DecidableEq,Inhabited
instance : Dat GCipher:=⟨λx=>Dat.bd (α:=Int × V256 × V44 × V16 × Int) (x.Field,x.Box,x.Mix,x.Places,x.Rounds),λx=>Dat.sz (α:=Int × V256 × V44 × V16 × Int) (x.Field,x.Box,x.Mix,x.Places,x.Rounds) + 1⟩
instance : Flat GCipher where
 n:=290
 enc x:=cat [enc x.Field,enc x.Box,enc x.Mix,enc x.Places,enc x.Rounds]
 len x:=qX (cl1 (Flat.len _) (cl1 (Flat.len _) (cl1 (Flat.len _) (cl1 (Flat.len _) (cl1 (Flat.len _) cl0)))))
 cell x:=Z0 (cc1 (Flat.cell _) (cc1 (Flat.cell _) (cc1 (Flat.cell _) (cc1 (Flat.cell _) (cc1 (Flat.cell _) cc0)))))
structure Gl01Source where
 code : (List UInt8)
 at0 : Int
 hash : Int
 deriving DecidableEq,Inhabited
instance : Dat Gl01Source:=⟨λx=>Dat.bd (α:=(List UInt8) × Int × Int) (x.code,x.at0,x.hash),λx=>Dat.sz (α:=(List UInt8) × Int × Int) (x.code,x.at0,x.hash) + 1⟩
instance : Rep Gl01Source:=repIso (α:=(List UInt8) × Int × Int) (λx=>(x.code,x.at0,x.hash))
theorem Zas {S : Nat → Prop} {w : World} {x : Gl01Source} {cs : List Value} {fp : List Nat} (h : Rep.sat S w x cs fp) : ∃ (b : Value),∃ (e : List Nat),cs = cat [[b],enc x.at0,enc x.hash] ∧ fp = e ∧ Rep.sat S w x.code [b] e:=by
 obtain ⟨j,k,l,q0,rfl,rfl,f,c⟩:=h
 obtain ⟨b,rfl⟩:=U0 f
 obtain ⟨m,n,o,q1,rfl,rfl,i,d⟩:=c
 obtain ⟨rfl,rfl⟩:=i
 obtain ⟨rfl,rfl⟩:=d
 exact ⟨b,_,R,by simp,f⟩
theorem Zbp {S : Nat → Prop} {w : World} {x : Gl01Source} {c : Value} {fp : List Nat} (h : Rep.sat S w x (cat [[c],enc x.at0,enc x.hash]) fp) : ∃ (b : List Nat),fp = b ∧ Rep.sat S w x.code [c] b:=by
 obtain ⟨i,b,hc,hf,d⟩:=Zas h
 obtain ⟨e,f⟩:=VC hc R
 obtain ⟨j,k⟩:=VC f R
 obtain rfl:=(List.cons.inj e).1
 exact ⟨b,hf,d⟩
theorem Zqm {S : Nat → Prop} {w : World} {x : Gl01Source} {cs : List Value} (h : Rep.sat S w x cs []) : ∃ b,cs = cat [[b],enc x.at0,enc x.hash] ∧ Rep.sat S w x.code [b] []:=by
 obtain ⟨k,l,m,n,rfl,c,i,d⟩:=h
 obtain ⟨rfl,rfl⟩:=List.append_eq_nil_iff.1 c.symm
 obtain ⟨b,rfl⟩:=U0 i
 obtain ⟨o,q,t,u,rfl,e,j,f⟩:=d
 obtain ⟨rfl,rfl⟩:=List.append_eq_nil_iff.1 e.symm
 obtain ⟨rfl,_⟩:=j
 obtain ⟨rfl,_⟩:=f
 exact ⟨b,R,i⟩
theorem Zdk {S : Nat → Prop} {w : World} {x : Gl01Source} {c : Value} {b fp : List Nat} (d : Rep.sat S w x.code [c] b) (hfp : fp = b) : Rep.sat S w x (cat [[c],enc x.at0,enc x.hash]) fp:=by
 rw [hfp]
 refine ⟨_,_,b,[],R,(by simp),d,?_⟩
 refine ⟨_,_,[],[],R,(by simp),⟨R,R⟩,?_⟩
 exact ⟨R,R⟩
theorem Zql {St : Nat → Prop} {b w : World} {its : List Item} {c : Item} {x : Gl01Source} {d : Value} (h : M St b w (c :: its)) (e : Zc8 c x.code d) : M St b w (own NoB x (cat [[d],enc x.at0,enc x.hash]) :: its):=h.packL (m:=[_]) (Xl noB) λfp h=>by obtain ⟨_,_,rfl,_,f,rfl⟩:=h; exact Zdk (e _ _ f) (by simp)
theorem Zqk {St : Nat → Prop} {c w : World} {its : List Item} {x : Gl01Source} {b : Value} (h : M St c w (own NoB x (cat [[b],enc x.at0,enc x.hash]) :: its)) : M St c w (own NoB x.code [b] :: its):=h.unpackL (m:=[own NoB x.code [b]]) λfp h=>by obtain ⟨_,rfl,d⟩:=Zbp h; exact XN.one (Xl noB) d
structure Gdice where
 b : (List UInt8)
 i : Int
 h : Int
 deriving DecidableEq,Inhabited
instance : Dat Gdice:=⟨λx=>Dat.bd (α:=(List UInt8) × Int × Int) (x.b,x.i,x.h),λx=>Dat.sz (α:=(List UInt8) × Int × Int) (x.b,x.i,x.h) + 1⟩
instance : Rep Gdice:=repIso (α:=(List UInt8) × Int × Int) (λx=>(x.b,x.i,x.h))
theorem Zmp {S : Nat → Prop} {w : World} {x : Gdice} {cs : List Value} {fp : List Nat} (h : Rep.sat S w x cs fp) : ∃ (c : Value),∃ (f : List Nat),cs = cat [[c],enc x.i,enc x.h] ∧ fp = f ∧ Rep.sat S w x.b [c] f:=by
 obtain ⟨l,m,n,q0,rfl,rfl,j,d⟩:=h
 obtain ⟨c,rfl⟩:=U0 j
 obtain ⟨o,q,t,q1,rfl,rfl,k,e⟩:=d
 obtain ⟨rfl,rfl⟩:=k
 obtain ⟨rfl,rfl⟩:=e
 exact ⟨c,_,R,by simp,j⟩
theorem Znb {S : Nat → Prop} {w : World} {x : Gdice} {d : Value} {fp : List Nat} (h : Rep.sat S w x (cat [[d],enc x.i,enc x.h]) fp) : ∃ (c : List Nat),fp = c ∧ Rep.sat S w x.b [d] c:=by
 obtain ⟨k,c,hc,hf,e⟩:=Zmp h
 obtain ⟨f,j⟩:=VC hc R
 obtain ⟨l,m⟩:=VC j R
 obtain rfl:=(List.cons.inj f).1
 exact ⟨c,hf,e⟩
theorem un_Gdice {S : Nat → Prop} {w : World} {x : Gdice} {cs : List Value} (h : Rep.sat S w x cs []) : ∃ c,cs = cat [[c],enc x.i,enc x.h] ∧ Rep.sat S w x.b [c] []:=by
 obtain ⟨m,n,o,q,rfl,d,k,e⟩:=h
 obtain ⟨rfl,rfl⟩:=List.append_eq_nil_iff.1 d.symm
 obtain ⟨c,rfl⟩:=U0 k
 obtain ⟨t,u,y,z,rfl,f,l,j⟩:=e
 obtain ⟨rfl,rfl⟩:=List.append_eq_nil_iff.1 f.symm
 obtain ⟨rfl,_⟩:=l
 obtain ⟨rfl,_⟩:=j
 exact ⟨c,R,k⟩
theorem Zoq {S : Nat → Prop} {w : World} {x : Gdice} {d : Value} {c fp : List Nat} (e : Rep.sat S w x.b [d] c) (hfp : fp = c) : Rep.sat S w x (cat [[d],enc x.i,enc x.h]) fp:=by
 rw [hfp]
 refine ⟨_,_,c,[],R,(by simp),e,?_⟩
 refine ⟨_,_,[],[],R,(by simp),⟨R,R⟩,?_⟩
 exact ⟨R,R⟩
theorem pm_Gdice {St : Nat → Prop} {c w : World} {its : List Item} {d : Item} {x : Gdice} {e : Value} (h : M St c w (d :: its)) (f : Zc8 d x.b e) : M St c w (own NoB x (cat [[e],enc x.i,enc x.h]) :: its):=h.packL (m:=[_]) (Xl noB) λfp h=>by obtain ⟨_,_,rfl,_,j,rfl⟩:=h; exact Zoq (f _ _ j) (by simp)
theorem um_Gdice {St : Nat → Prop} {d w : World} {its : List Item} {x : Gdice} {c : Value} (h : M St d w (own NoB x (cat [[c],enc x.i,enc x.h]) :: its)) : M St d w (own NoB x.b [c] :: its):=h.unpackL (m:=[own NoB x.b [c]]) λfp h=>by obtain ⟨_,rfl,e⟩:=Znb h; exact XN.one (Xl noB) e
structure Gengine where
 box : V256
 backBox : V256
 places : V16
 backPlaces : V16
 mixer : (Ref (Vector (Vector V256 4) 4))
 backMixer : (Ref (Vector (Vector V256 4) 4))
 rounds : Int
 deriving DecidableEq,Inhabited
instance : Dat Gengine:=⟨λx=>Dat.bd (α:=V256 × V256 × V16 × V16 × (Ref (Vector (Vector V256 4) 4)) × (Ref (Vector (Vector V256 4) 4)) × Int) (x.box,x.backBox,x.places,x.backPlaces,x.mixer,x.backMixer,x.rounds),λx=>Dat.sz (α:=V256 × V256 × V16 × V16 × (Ref (Vector (Vector V256 4) 4)) × (Ref (Vector (Vector V256 4) 4)) × Int) (x.box,x.backBox,x.places,x.backPlaces,x.mixer,x.backMixer,x.rounds) + 1⟩
instance : Rep Gengine:=repIso (α:=V256 × V256 × V16 × V16 × (Ref (Vector (Vector V256 4) 4)) × (Ref (Vector (Vector V256 4) 4)) × Int) (λx=>(x.box,x.backBox,x.places,x.backPlaces,x.mixer,x.backMixer,x.rounds))
theorem Zhk {S : Nat → Prop} {w : World} {x : Gengine} {cs : List Value} {fp : List Nat} (h : Rep.sat S w x cs fp) : ∃ (b : Value) (c : Value),∃ (l : List Nat) (m : List Nat),cs = cat [enc x.box,enc x.backBox,enc x.places,enc x.backPlaces,[b],[c],enc x.rounds] ∧ fp = (l ++ m) ∧ Rep.sat S w x.mixer [b] l ∧ Rep.sat S w x.backMixer [c] m:=by
 obtain ⟨z,A,B,q0,rfl,rfl,q,d⟩:=h
 obtain ⟨rfl,rfl⟩:=q
 obtain ⟨C,E,F,q1,rfl,rfl,t,e⟩:=d
 obtain ⟨rfl,rfl⟩:=t
 obtain ⟨G,K,L,q2,rfl,rfl,u,f⟩:=e
 obtain ⟨rfl,rfl⟩:=u
 obtain ⟨N,O,T,q3,rfl,rfl,y,i⟩:=f
 obtain ⟨rfl,rfl⟩:=y
 obtain ⟨U,W,X,q4,rfl,rfl,n,j⟩:=i
 obtain ⟨b,rfl⟩:=By n
 obtain ⟨Y,Z,f5,q5,rfl,rfl,o,k⟩:=j
 obtain ⟨c,rfl⟩:=By o
 obtain ⟨rfl,rfl⟩:=k
 exact ⟨b,c,_,_,R,by simp,n,o⟩
theorem Zsj {S : Nat → Prop} {w : World} {x : Gengine} {d e : Value} {fp : List Nat} (h : Rep.sat S w x (cat [enc x.box,enc x.backBox,enc x.places,enc x.backPlaces,[d],[e],enc x.rounds]) fp) : ∃ (b : List Nat) (c : List Nat),fp = (b ++ c) ∧ Rep.sat S w x.mixer [d] b ∧ Rep.sat S w x.backMixer [e] c:=by
 obtain ⟨t,u,b,c,hc,hf,f,i⟩:=Zhk h
 obtain ⟨y,j⟩:=VC hc R
 obtain ⟨z,k⟩:=VC j R
 obtain ⟨A,l⟩:=VC k R
 obtain ⟨B,m⟩:=VC l R
 obtain ⟨n,o⟩:=VC m R
 obtain ⟨q,C⟩:=VC o R
 obtain rfl:=(List.cons.inj n).1
 obtain rfl:=(List.cons.inj q).1
 exact ⟨b,c,hf,f,i⟩
theorem Qj {S : Nat → Prop} {w : World} {x : Gengine} {cs : List Value} (h : Rep.sat S w x cs []) : ∃ b c,cs = cat [enc x.box,enc x.backBox,enc x.places,enc x.backPlaces,[b],[c],enc x.rounds] ∧ Rep.sat S w x.mixer [b] [] ∧ Rep.sat S w x.backMixer [c] []:=by
 obtain ⟨E,F,G,K,rfl,d,z,e⟩:=h
 obtain ⟨rfl,rfl⟩:=List.append_eq_nil_iff.1 d.symm
 obtain ⟨rfl,_⟩:=z
 obtain ⟨L,N,O,T,rfl,f,A,i⟩:=e
 obtain ⟨rfl,rfl⟩:=List.append_eq_nil_iff.1 f.symm
 obtain ⟨rfl,_⟩:=A
 obtain ⟨U,W,X,Y,rfl,j,B,k⟩:=i
 obtain ⟨rfl,rfl⟩:=List.append_eq_nil_iff.1 j.symm
 obtain ⟨rfl,_⟩:=B
 obtain ⟨Z,d3,f3,g3,rfl,l,C,m⟩:=k
 obtain ⟨rfl,rfl⟩:=List.append_eq_nil_iff.1 l.symm
 obtain ⟨rfl,_⟩:=C
 obtain ⟨c4,d4,f4,g4,rfl,n,u,o⟩:=m
 obtain ⟨rfl,rfl⟩:=List.append_eq_nil_iff.1 n.symm
 obtain ⟨b,rfl⟩:=By u
 obtain ⟨c5,d5,f5,g5,rfl,q,y,t⟩:=o
 obtain ⟨rfl,rfl⟩:=List.append_eq_nil_iff.1 q.symm
 obtain ⟨c,rfl⟩:=By y
 obtain ⟨rfl,_⟩:=t
 exact ⟨b,c,R,u,y⟩
theorem Zir {S : Nat → Prop} {w : World} {x : Gengine} {d e : Value} {c b fp : List Nat} (f : Rep.sat S w x.mixer [d] c) (h : Rep.sat S w x.backMixer [e] b) (hfp : fp = (c ++ b)) : Rep.sat S w x (cat [enc x.box,enc x.backBox,enc x.places,enc x.backPlaces,[d],[e],enc x.rounds]) fp:=by
 rw [hfp]
 refine ⟨_,_,[],(c ++ b),R,(by simp),⟨R,R⟩,?_⟩
 refine ⟨_,_,[],(c ++ b),R,(by simp),⟨R,R⟩,?_⟩
 refine ⟨_,_,[],(c ++ b),R,(by simp),⟨R,R⟩,?_⟩
 refine ⟨_,_,[],(c ++ b),R,(by simp),⟨R,R⟩,?_⟩
 refine ⟨_,_,c,b,R,(by simp),f,?_⟩
 refine ⟨_,_,b,[],R,(by simp),h,?_⟩
 exact ⟨R,R⟩
structure Gkeyed where
 engine : (Ref Gengine)
 keys : (List V16)
 deriving DecidableEq,Inhabited
instance : Dat Gkeyed:=⟨λx=>Dat.bd (α:=(Ref Gengine) × (List V16)) (x.engine,x.keys),λx=>Dat.sz (α:=(Ref Gengine) × (List V16)) (x.engine,x.keys) + 1⟩
instance : Rep Gkeyed:=repIso (α:=(Ref Gengine) × (List V16)) (λx=>(x.engine,x.keys))
theorem Zj0 {S : Nat → Prop} {w : World} {x : Gkeyed} {cs : List Value} {fp : List Nat} (h : Rep.sat S w x cs fp) : ∃ (c : Value) (d : Value),∃ (e : List Nat) (f : List Nat),cs = cat [[c],[d]] ∧ fp = (e ++ f) ∧ Rep.sat S w x.engine [c] e ∧ Rep.sat S w x.keys [d] f:=by
 obtain ⟨j,k,l,q0,rfl,rfl,i,b⟩:=h
 obtain ⟨c,rfl⟩:=By i
 obtain ⟨d,rfl⟩:=U0 b
 exact ⟨c,d,_,_,R,by simp,i,b⟩
theorem Zao {S : Nat → Prop} {w : World} {x : Gkeyed} {d e : Value} {fp : List Nat} (h : Rep.sat S w x (cat [[d],[e]]) fp) : ∃ (b : List Nat) (c : List Nat),fp = (b ++ c) ∧ Rep.sat S w x.engine [d] b ∧ Rep.sat S w x.keys [e] c:=by
 obtain ⟨l,m,b,c,hc,hf,f,i⟩:=Zj0 h
 obtain ⟨j,k⟩:=VC hc R
 obtain rfl:=(List.cons.inj j).1
 obtain rfl:=(List.cons.inj k).1
 exact ⟨b,c,hf,f,i⟩
theorem jX {S : Nat → Prop} {w : World} {x : Gkeyed} {cs : List Value} (h : Rep.sat S w x cs []) : ∃ c d,cs = cat [[c],[d]] ∧ Rep.sat S w x.engine [c] [] ∧ Rep.sat S w x.keys [d] []:=by
 obtain ⟨i,j,k,l,rfl,e,f,b⟩:=h
 obtain ⟨rfl,rfl⟩:=List.append_eq_nil_iff.1 e.symm
 obtain ⟨c,rfl⟩:=By f
 obtain ⟨d,rfl⟩:=U0 b
 exact ⟨c,d,R,f,b⟩
theorem Zdp {S : Nat → Prop} {w : World} {x : Gkeyed} {d e : Value} {b c fp : List Nat} (f : Rep.sat S w x.engine [d] b) (h : Rep.sat S w x.keys [e] c) (hfp : fp = (b ++ c)) : Rep.sat S w x (cat [[d],[e]]) fp:=by
 rw [hfp]
 refine ⟨_,_,b,c,R,(by simp),f,?_⟩
 exact h
structure Ghasher where
 engine : (Ref Gengine)
 deriving DecidableEq,Inhabited
instance : Dat Ghasher:=⟨λx=>Dat.bd (α:=(Ref Gengine)) (x.engine),λx=>Dat.sz (α:=(Ref Gengine)) (x.engine) + 1⟩
instance : Rep Ghasher:=repIso (α:=(Ref Gengine)) (λx=>(x.engine))
theorem Zgu {S : Nat → Prop} {w : World} {x : Ghasher} {cs : List Value} {fp : List Nat} (h : Rep.sat S w x cs fp) : ∃ (b : Value),∃ (c : List Nat),cs = cat [[b]] ∧ fp = c ∧ Rep.sat S w x.engine [b] c:=by
 obtain ⟨b,rfl⟩:=By h
 exact ⟨b,_,R,by simp,h⟩
theorem Zgj {S : Nat → Prop} {w : World} {x : Ghasher} {c : Value} {fp : List Nat} (h : Rep.sat S w x (cat [[c]]) fp) : ∃ (b : List Nat),fp = b ∧ Rep.sat S w x.engine [c] b:=by
 obtain ⟨e,b,hc,hf,d⟩:=Zgu h
 obtain rfl:=(List.cons.inj hc).1
 exact ⟨b,hf,d⟩
theorem Zcc {S : Nat → Prop} {w : World} {x : Ghasher} {cs : List Value} (h : Rep.sat S w x cs []) : ∃ b,cs = cat [[b]] ∧ Rep.sat S w x.engine [b] []:=by
 obtain ⟨b,rfl⟩:=By h
 exact ⟨b,R,h⟩
theorem Zj4 {S : Nat → Prop} {w : World} {x : Ghasher} {b : Value} {c fp : List Nat} (d : Rep.sat S w x.engine [b] c) (hfp : fp = c) : Rep.sat S w x (cat [[b]]) fp:=by
 rw [hfp]
 exact d
structure GShare where
 Place : UInt8
 Data : (List UInt8)
 deriving DecidableEq,Inhabited
instance : Dat GShare:=⟨λx=>Dat.bd (α:=UInt8 × (List UInt8)) (x.Place,x.Data),λx=>Dat.sz (α:=UInt8 × (List UInt8)) (x.Place,x.Data) + 1⟩
instance : Rep GShare:=repIso (α:=UInt8 × (List UInt8)) (λx=>(x.Place,x.Data))
theorem Zjx {S : Nat → Prop} {w : World} {x : GShare} {cs : List Value} {fp : List Nat} (h : Rep.sat S w x cs fp) : ∃ (c : Value),∃ (d : List Nat),cs = cat [enc x.Place,[c]] ∧ fp = d ∧ Rep.sat S w x.Data [c] d:=by
 obtain ⟨f,i,j,q0,rfl,rfl,e,b⟩:=h
 obtain ⟨rfl,rfl⟩:=e
 obtain ⟨c,rfl⟩:=U0 b
 exact ⟨c,_,R,by simp,b⟩
theorem Zjn {S : Nat → Prop} {w : World} {x : GShare} {c : Value} {fp : List Nat} (h : Rep.sat S w x (cat [enc x.Place,[c]]) fp) : ∃ (b : List Nat),fp = b ∧ Rep.sat S w x.Data [c] b:=by
 obtain ⟨f,b,hc,hf,d⟩:=Zjx h
 obtain ⟨i,e⟩:=VC hc R
 obtain rfl:=(List.cons.inj e).1
 exact ⟨b,hf,d⟩
theorem Jw {S : Nat → Prop} {w : World} {x : GShare} {cs : List Value} (h : Rep.sat S w x cs []) : ∃ c,cs = cat [enc x.Place,[c]] ∧ Rep.sat S w x.Data [c] []:=by
 obtain ⟨f,i,j,k,rfl,d,e,b⟩:=h
 obtain ⟨rfl,rfl⟩:=List.append_eq_nil_iff.1 d.symm
 obtain ⟨rfl,_⟩:=e
 obtain ⟨c,rfl⟩:=U0 b
 exact ⟨c,R,b⟩
theorem jK {S : Nat → Prop} {w : World} {x : GShare} {c : Value} {b fp : List Nat} (d : Rep.sat S w x.Data [c] b) (hfp : fp = b) : Rep.sat S w x (cat [enc x.Place,[c]]) fp:=by
 rw [hfp]
 refine ⟨_,_,[],b,R,(by simp),⟨R,R⟩,?_⟩
 exact d
theorem pm_GShare {St : Nat → Prop} {b w : World} {its : List Item} {c : Item} {x : GShare} {d : Value} (h : M St b w (c :: its)) (e : Zc8 c x.Data d) : M St b w (own NoB x (cat [enc x.Place,[d]]) :: its):=h.packL (m:=[_]) (Xl noB) λfp h=>by obtain ⟨_,_,rfl,_,f,rfl⟩:=h; exact jK (e _ _ f) (by simp)
theorem um_GShare {St : Nat → Prop} {c w : World} {its : List Item} {x : GShare} {b : Value} (h : M St c w (own NoB x (cat [enc x.Place,[b]]) :: its)) : M St c w (own NoB x.Data [b] :: its):=h.unpackL (m:=[own NoB x.Data [b]]) λfp h=>by obtain ⟨_,rfl,d⟩:=Zjn h; exact XN.one (Xl noB) d
theorem Zsk (w : World) : Rep.sat NoB w (⟨(0 : UInt8),([] : (List UInt8))⟩ : GShare) (cat [(enc (0 : UInt8)),[.slice none 0 0]]) []:=jK J9 rfl
structure GRecord where
 Number : Int
 Version : Int
 Nonce : V16
 Label : (List UInt8)
 Body : (List UInt8)
 Tag : V32
 deriving DecidableEq,Inhabited
instance : Dat GRecord:=⟨λx=>Dat.bd (α:=Int × Int × V16 × (List UInt8) × (List UInt8) × V32) (x.Number,x.Version,x.Nonce,x.Label,x.Body,x.Tag),λx=>Dat.sz (α:=Int × Int × V16 × (List UInt8) × (List UInt8) × V32) (x.Number,x.Version,x.Nonce,x.Label,x.Body,x.Tag) + 1⟩
instance : Rep GRecord:=repIso (α:=Int × Int × V16 × (List UInt8) × (List UInt8) × V32) (λx=>(x.Number,x.Version,x.Nonce,x.Label,x.Body,x.Tag))
theorem qa {S : Nat → Prop} {w : World} {x : GRecord} {cs : List Value} {fp : List Nat} (h : Rep.sat S w x cs fp) : ∃ (b : Value) (c : Value),∃ (k : List Nat) (l : List Nat),cs = cat [enc x.Number,enc x.Version,enc x.Nonce,[b],[c],enc x.Tag] ∧ fp = (k ++ l) ∧ Rep.sat S w x.Label [b] k ∧ Rep.sat S w x.Body [c] l:=by
 obtain ⟨u,y,z,q0,rfl,rfl,o,d⟩:=h
 obtain ⟨rfl,rfl⟩:=o
 obtain ⟨A,B,C,q1,rfl,rfl,q,e⟩:=d
 obtain ⟨rfl,rfl⟩:=q
 obtain ⟨E,F,G,q2,rfl,rfl,t,f⟩:=e
 obtain ⟨rfl,rfl⟩:=t
 obtain ⟨K,L,N,q3,rfl,rfl,m,i⟩:=f
 obtain ⟨b,rfl⟩:=U0 m
 obtain ⟨O,T,U,q4,rfl,rfl,n,j⟩:=i
 obtain ⟨c,rfl⟩:=U0 n
 obtain ⟨rfl,rfl⟩:=j
 exact ⟨b,c,_,_,R,by simp,m,n⟩
theorem Zg5 {S : Nat → Prop} {w : World} {x : GRecord} {d e : Value} {fp : List Nat} (h : Rep.sat S w x (cat [enc x.Number,enc x.Version,enc x.Nonce,[d],[e],enc x.Tag]) fp) : ∃ (b : List Nat) (c : List Nat),fp = (b ++ c) ∧ Rep.sat S w x.Label [d] b ∧ Rep.sat S w x.Body [e] c:=by
 obtain ⟨q,t,b,c,hc,hf,f,i⟩:=qa h
 obtain ⟨u,j⟩:=VC hc R
 obtain ⟨y,k⟩:=VC j R
 obtain ⟨z,l⟩:=VC k R
 obtain ⟨m,n⟩:=VC l R
 obtain ⟨o,A⟩:=VC n R
 obtain rfl:=(List.cons.inj m).1
 obtain rfl:=(List.cons.inj o).1
 exact ⟨b,c,hf,f,i⟩
theorem TF {S : Nat → Prop} {w : World} {x : GRecord} {cs : List Value} (h : Rep.sat S w x cs []) : ∃ b c,cs = cat [enc x.Number,enc x.Version,enc x.Nonce,[b],[c],enc x.Tag] ∧ Rep.sat S w x.Label [b] [] ∧ Rep.sat S w x.Body [c] []:=by
 obtain ⟨A,B,C,E,rfl,d,u,e⟩:=h
 obtain ⟨rfl,rfl⟩:=List.append_eq_nil_iff.1 d.symm
 obtain ⟨rfl,_⟩:=u
 obtain ⟨F,G,K,L,rfl,f,y,i⟩:=e
 obtain ⟨rfl,rfl⟩:=List.append_eq_nil_iff.1 f.symm
 obtain ⟨rfl,_⟩:=y
 obtain ⟨N,O,T,U,rfl,j,z,k⟩:=i
 obtain ⟨rfl,rfl⟩:=List.append_eq_nil_iff.1 j.symm
 obtain ⟨rfl,_⟩:=z
 obtain ⟨W,X,Y,Z,rfl,l,q,m⟩:=k
 obtain ⟨rfl,rfl⟩:=List.append_eq_nil_iff.1 l.symm
 obtain ⟨b,rfl⟩:=U0 q
 obtain ⟨c4,d4,f4,g4,rfl,n,t,o⟩:=m
 obtain ⟨rfl,rfl⟩:=List.append_eq_nil_iff.1 n.symm
 obtain ⟨c,rfl⟩:=U0 t
 obtain ⟨rfl,_⟩:=o
 exact ⟨b,c,R,q,t⟩
theorem Ai {S : Nat → Prop} {w : World} {x : GRecord} {d e : Value} {c b fp : List Nat} (f : Rep.sat S w x.Label [d] c) (h : Rep.sat S w x.Body [e] b) (hfp : fp = (c ++ b)) : Rep.sat S w x (cat [enc x.Number,enc x.Version,enc x.Nonce,[d],[e],enc x.Tag]) fp:=by
 rw [hfp]
 refine ⟨_,_,[],(c ++ b),R,(by simp),⟨R,R⟩,?_⟩
 refine ⟨_,_,[],(c ++ b),R,(by simp),⟨R,R⟩,?_⟩
 refine ⟨_,_,[],(c ++ b),R,(by simp),⟨R,R⟩,?_⟩
 refine ⟨_,_,c,b,R,(by simp),f,?_⟩
 refine ⟨_,_,b,[],R,(by simp),h,?_⟩
 exact ⟨R,R⟩
theorem H0 {St : Nat → Prop} {b w : World} {its : List Item} {c d : Item} {x : GRecord} {e f : Value} (h : M St b w (c :: d :: its)) (i : Zc8 c x.Label e) (j : Zc8 d x.Body f) : M St b w (own NoB x (cat [enc x.Number,enc x.Version,enc x.Nonce,[e],[f],enc x.Tag]) :: its):=h.packL (m:=[_,_]) (Xl noB) λfp h=>by obtain ⟨_,_,rfl,_,k,_,_,rfl,_,l,rfl⟩:=h; exact Ai (i _ _ k) (j _ _ l) (by simp)
theorem yz {St : Nat → Prop} {d w : World} {its : List Item} {x : GRecord} {b c : Value} (h : M St d w (own NoB x (cat [enc x.Number,enc x.Version,enc x.Nonce,[b],[c],enc x.Tag]) :: its)) : M St d w (own NoB x.Label [b] :: own NoB x.Body [c] :: its):=h.unpackL (m:=[own NoB x.Label [b],own NoB x.Body [c]]) λfp h=>by obtain ⟨_,_,rfl,e,f⟩:=Zg5 h; exact (XN.cons (Xl noB) e (XN.one (Xl noB) f))
theorem Zr9 (w : World) : Rep.sat NoB w (⟨(0 : Int),(0 : Int),(Vector.replicate 16 (0 : UInt8)),([] : (List UInt8)),([] : (List UInt8)),(Vector.replicate 32 (0 : UInt8))⟩ : GRecord) (cat [(enc (0 : Int)),(enc (0 : Int)),(enc (Vector.replicate 16 (0 : UInt8))),[.slice none 0 0],[.slice none 0 0],(enc (Vector.replicate 32 (0 : UInt8)))]) []:=Ai J9 J9 rfl
structure GEvent where
 Kind : Int
 Number : Int
 Tag : V32
 deriving DecidableEq,Inhabited
instance : Dat GEvent:=⟨λx=>Dat.bd (α:=Int × Int × V32) (x.Kind,x.Number,x.Tag),λx=>Dat.sz (α:=Int × Int × V32) (x.Kind,x.Number,x.Tag) + 1⟩
instance : Flat GEvent where
 n:=34
 enc x:=cat [enc x.Kind,enc x.Number,enc x.Tag]
 len x:=qX (cl1 (Flat.len _) (cl1 (Flat.len _) (cl1 (Flat.len _) cl0)))
 cell x:=Z0 (cc1 (Flat.cell _) (cc1 (Flat.cell _) (cc1 (Flat.cell _) cc0)))
structure GVault where
 Keys : (List V16)
 Next : Int
 Records : (List GRecord)
 Events : (List GEvent)
 Head : V32
 deriving DecidableEq,Inhabited
instance : Dat GVault:=⟨λx=>Dat.bd (α:=(List V16) × Int × (List GRecord) × (List GEvent) × V32) (x.Keys,x.Next,x.Records,x.Events,x.Head),λx=>Dat.sz (α:=(List V16) × Int × (List GRecord) × (List GEvent) × V32) (x.Keys,x.Next,x.Records,x.Events,x.Head) + 1⟩
instance : Rep GVault:=repIso (α:=(List V16) × Int × (List GRecord) × (List GEvent) × V32) (λx=>(x.Keys,x.Next,x.Records,x.Events,x.Head))
abbrev cV (a b c : Value) (p : GVault):=cat [[a],[vI p.Next],[b],[c],enc p.Head]
abbrev cR (a b : Value) (p : GRecord):=cat [[vI p.Number],[vI p.Version],enc p.Nonce,[a],[b],enc p.Tag]
abbrev vcV (a b c : Value) (p : GVault):=Value.agg (cV a b c p).toArray
abbrev vcR (a b : Value) (p : GRecord):=Value.agg (cR a b p).toArray
abbrev xa:=[[(Value.slice none 0 0)],[vI 0],[(Value.slice none 0 0)],[(Value.slice none 0 0)],enc (Vector.replicate 32 (0 : UInt8))]
abbrev xb:=(Vector.replicate 16 (0 : UInt8))
abbrev xc:=(Vector.replicate 4 (Vector.replicate 4 (0 : UInt8)))
abbrev xd:=(Vector.replicate 32 (0 : UInt8))
abbrev xe:=(Vector.replicate 256 (0 : UInt8))
abbrev xf:=(Value.slice none 0 0)
abbrev xg:=(Vector.replicate 4 (0 : UInt8))
abbrev xh:=(cat [[vI 0],enc xe,enc xc,enc xb,[vI 0]])
abbrev xi:=(enc xb)
abbrev xj:=(List (Int × V32))
abbrev xl:=(Value.int .i64)
abbrev xm:=(cat [[vI 0],[vI 0],enc xb,[xf],[xf],enc xd])
abbrev xp:=(List (List UInt8))
abbrev xq:=(enc xd)
abbrev xr:=(Int × Int)
abbrev xt:=(Vector (Vector V256 4) 4)
abbrev xu:=(([108,97,98,101,108] : List UInt8) : List UInt8)
abbrev xv:=[(Value.pointer none)]
abbrev xw:=[vI 285]
abbrev xx:=(enc xc)
abbrev xy:=(cat xa)
abbrev xz:=([] : List UInt8)
abbrev xA:=([1] : List UInt8)
abbrev xB:=(enc xe)
abbrev o_1:=@Option.some.inj
abbrev p_1:=@bind_some
abbrev s_1:=@wp_region_lit
abbrev t_1:=@Flat.cell
abbrev u_1:=@Flat.len
abbrev o_2:=@underlying22
abbrev p_2:=@wp_block
abbrev s_2:=@wp_seq
abbrev t_2:=@wp_skip
abbrev u_2:=@wp_ret
abbrev o_3:=@underlying75
abbrev p_3:=@underlying59
abbrev s_3:=@wp_exit
abbrev t_3:=@underlying5
abbrev u_3:=@underlying53
abbrev o_4:=@Rep.cell
abbrev p_4:=@underlying57
abbrev s_4:=@underlying26
abbrev t_4:=@underlying2
abbrev u_4:=@underlying56
abbrev o_5:=@underlying24
abbrev p_5:=@underlying76
abbrev s_5:=@underlying71
abbrev t_5:=@underlying25
abbrev u_5:=@underlying60
abbrev o_6:=@underlying3
abbrev p_6:=@underlying32
abbrev s_6:=@underlying77
abbrev t_6:=@Kept.refl
abbrev u_6:=@underlying51
abbrev o_7:=@underlying87
abbrev p_7:=@underlying322
abbrev s_7:=@underlying320
abbrev t_7:=@underlying187
abbrev u_7:=@underlying55
abbrev o_8:=@underlying324
theorem Zjv {S : Nat → Prop} {w : World} {x : GVault} {cs : List Value} {fp : List Nat} (h : Rep.sat S w x cs fp) : ∃ b c d : Value,∃ (k : List Nat) (l : List Nat) (m : List Nat),cs = cat [[b],enc x.Next,[c],[d],enc x.Head] ∧ fp = (k ++ (l ++ m)) ∧ Rep.sat S w x.Keys [b] k ∧ Rep.sat S w x.Records [c] l ∧ Rep.sat S w x.Events [d] m:=by
 obtain ⟨u,y,z,q0,rfl,rfl,n,e⟩:=h
 obtain ⟨b,rfl⟩:=U0 n
 obtain ⟨A,B,C,q1,rfl,rfl,t,f⟩:=e
 obtain ⟨rfl,rfl⟩:=t
 obtain ⟨E,F,G,q2,rfl,rfl,o,i⟩:=f
 obtain ⟨c,rfl⟩:=U0 o
 obtain ⟨K,L,N,q3,rfl,rfl,q,j⟩:=i
 obtain ⟨d,rfl⟩:=U0 q
 obtain ⟨rfl,rfl⟩:=j
 exact ⟨b,c,d,_,_,_,R,by simp,n,o,q⟩
theorem Zij {S : Nat → Prop} {w : World} {x : GVault} {e f i : Value} {fp : List Nat} (h : Rep.sat S w x (cat [[e],enc x.Next,[f],[i],enc x.Head]) fp) : ∃ (b : List Nat) (c : List Nat) (d : List Nat),fp = (b ++ (c ++ d)) ∧ Rep.sat S w x.Keys [e] b ∧ Rep.sat S w x.Records [f] c ∧ Rep.sat S w x.Events [i] d:=by
 obtain ⟨y,z,A,b,c,d,hc,hf,j,k,l⟩:=Zjv h
 obtain ⟨m,n⟩:=VC hc R
 obtain ⟨B,o⟩:=VC n R
 obtain ⟨q,t⟩:=VC o R
 obtain ⟨u,C⟩:=VC t R
 obtain rfl:=(List.cons.inj m).1
 obtain rfl:=(List.cons.inj q).1
 obtain rfl:=(List.cons.inj u).1
 exact ⟨b,c,d,hf,j,k,l⟩
theorem Jv {S : Nat → Prop} {w : World} {x : GVault} {cs : List Value} (h : Rep.sat S w x cs []) : ∃ b c d,cs = cat [[b],enc x.Next,[c],[d],enc x.Head] ∧ Rep.sat S w x.Keys [b] [] ∧ Rep.sat S w x.Records [c] [] ∧ Rep.sat S w x.Events [d] []:=by
 obtain ⟨y,z,A,B,rfl,e,o,f⟩:=h
 obtain ⟨rfl,rfl⟩:=List.append_eq_nil_iff.1 e.symm
 obtain ⟨b,rfl⟩:=U0 o
 obtain ⟨C,E,F,G,rfl,i,u,j⟩:=f
 obtain ⟨rfl,rfl⟩:=List.append_eq_nil_iff.1 i.symm
 obtain ⟨rfl,_⟩:=u
 obtain ⟨K,L,N,O,rfl,k,q,l⟩:=j
 obtain ⟨rfl,rfl⟩:=List.append_eq_nil_iff.1 k.symm
 obtain ⟨c,rfl⟩:=U0 q
 obtain ⟨T,U,W,X,rfl,m,t,n⟩:=l
 obtain ⟨rfl,rfl⟩:=List.append_eq_nil_iff.1 m.symm
 obtain ⟨d,rfl⟩:=U0 t
 obtain ⟨rfl,_⟩:=n
 exact ⟨b,c,d,R,o,q,t⟩
theorem Zep {S : Nat → Prop} {w : World} {x : GVault} {e f h : Value} {d c b fp : List Nat} (i : Rep.sat S w x.Keys [e] d) (j : Rep.sat S w x.Records [f] c) (k : Rep.sat S w x.Events [h] b) (hfp : fp = (d ++ (c ++ b))) : Rep.sat S w x (cat [[e],enc x.Next,[f],[h],enc x.Head]) fp:=by
 rw [hfp]
 refine ⟨_,_,d,c ++ b,R,(by simp),i,?_⟩
 refine ⟨_,_,[],c ++ b,R,(by simp),⟨R,R⟩,?_⟩
 refine ⟨_,_,c,b,R,(by simp),j,?_⟩
 refine ⟨_,_,b,[],R,(by simp),k,?_⟩
 exact ⟨R,R⟩
theorem BQ {St : Nat → Prop} {b w : World} {its : List Item} {c d e : Item} {x : GVault} {f i j : Value} (h : M St b w (c :: d :: e :: its)) (k : Zc8 c x.Keys f) (l : Zc8 d x.Records i) (n : Zc8 e x.Events j) : M St b w (own NoB x (cat [[f],enc x.Next,[i],[j],enc x.Head]) :: its):=h.packL (m:=[_,_,_]) (Xl noB) λfp h=>by obtain ⟨_,_,rfl,_,o,_,_,rfl,_,q,_,_,rfl,_,t,rfl⟩:=h; exact Zep (k _ _ o) (l _ _ q) (n _ _ t) (by simp)
theorem BT {St : Nat → Prop} {e w : World} {its : List Item} {x : GVault} {b c d : Value} (h : M St e w (own NoB x (cat [[b],enc x.Next,[c],[d],enc x.Head]) :: its)) : M St e w (own NoB x.Keys [b] :: own NoB x.Records [c] :: own NoB x.Events [d] :: its):=h.unpackL (m:=[own NoB x.Keys [b],own NoB x.Records [c],own NoB x.Events [d]]) λfp h=>by obtain ⟨_,_,_,rfl,f,i,j⟩:=Zij h; exact (XN.cons (Xl noB) f (XN.cons (Xl noB) i (XN.one (Xl noB) j)))
theorem Zsi (w : World) : Rep.sat NoB w (⟨([] : List V16),(0 : Int),([] : List GRecord),([] : List GEvent),xd⟩ : GVault) (cat [[.slice none 0 0],enc (0 : Int),[.slice none 0 0],[.slice none 0 0],xq]) []:=Zep J9 J9 J9 rfl
theorem ty2 : Ty prog 2 (.int .i64) 1 8 (enc (0 : Int)):=⟨t_4,by kernel_rfl⟩
theorem ty3 : Ty prog 3 (.int .i64) 1 8 (enc (0 : Int)):=⟨o_6,by kernel_rfl⟩
theorem ty4 : Ty prog 4 .bool 1 1 (enc false):=⟨underlying4,by kernel_rfl⟩
theorem ty5 : Ty prog 5 (.int .u8) 1 1 (enc (0 : UInt8)):=⟨t_3,by kernel_rfl⟩
theorem Uf : Ty prog 22 (.slice 5) 1 24 [.slice none 0 0]:=⟨o_2,by kernel_rfl⟩
theorem Zkb : Ty prog 26 (.slice 2) 1 24 [.slice none 0 0]:=⟨s_4,by kernel_rfl⟩
theorem Yi : Ty prog 32 (.array 32 5) 32 32 xq:=⟨p_6,by kernel_rfl⟩
theorem qO : Ty prog 51 (.int .u64) 1 8 [.int .u64 0]:=⟨u_6,by kernel_rfl⟩
theorem ZD : Ty prog 53 (.array 16 5) 16 16 xi:=⟨u_3,by kernel_rfl⟩
theorem ty55 : Ty prog 55 (.array 256 5) 256 256 xB:=⟨u_7,by kernel_rfl⟩
theorem Wg : Ty prog 56 (.array 256 5) 256 256 xB:=⟨u_4,by kernel_rfl⟩
theorem Xo : Ty prog 57 (.array 4 5) 4 4 (enc xg):=⟨p_4,by kernel_rfl⟩
theorem Ve : Ty prog 59 (.array 4 57) 16 16 xx:=⟨p_3,by kernel_rfl⟩
theorem BL : Ty prog 60 (.array 16 5) 16 16 xi:=⟨u_5,by kernel_rfl⟩
theorem Wk : Ty prog 62 (.struct [f_ "Field" 2 0 0, f_ "Box" 56 1 8, f_ "Mix" 59 257 264, f_ "Places" 60 273 280, f_ "Rounds" 2 289 296].toArray) 290 304 (enc (⟨(0 : Int), xe, xc, xb, (0 : Int)⟩ : GCipher)) := ⟨underlying62, by kernel_rfl⟩
theorem ty71 : Ty prog 71 (.slice 240) 1 24 [.slice none 0 0]:=⟨s_5,by kernel_rfl⟩
theorem BZ : Ty prog 75 (.slice 53) 1 24 [.slice none 0 0]:=⟨o_3,by kernel_rfl⟩
theorem AG : Ty prog 76 (.slice 98) 1 24 [.slice none 0 0]:=⟨p_5,by kernel_rfl⟩
theorem qh : Ty prog 77 (.slice 181) 1 24 [.slice none 0 0]:=⟨s_6,by kernel_rfl⟩
theorem YX : Ty prog 79 (.struct [f_ "Keys" 75 0 0, f_ "Next" 2 1 24, f_ "Records" 76 2 32, f_ "Events" 77 3 56, f_ "Head" 32 4 80].toArray) 36 112 (cat [[.slice none 0 0], (enc (0 : Int)), [.slice none 0 0], [.slice none 0 0], xq]) := ⟨underlying79, by kernel_rfl⟩
theorem Vd : Ty prog 98 (.struct [f_ "Number" 2 0 0, f_ "Version" 2 1 8, f_ "Nonce" 53 2 16, f_ "Label" 22 18 32, f_ "Body" 22 19 56, f_ "Tag" 32 20 80].toArray) 52 112 (cat [enc (0 : Int), (enc (0 : Int)), xi, [.slice none 0 0], [.slice none 0 0], xq]) := ⟨underlying98, by kernel_rfl⟩
theorem Zd4 : Ty prog 120 (.pointer 280) 1 8 [.pointer none]:=⟨underlying120,by kernel_rfl⟩
theorem Hv : Ty prog 122 (.struct [{ name := "engine", type := 120, offset := 0, embedded := false, tag := "", pkgPath := "loop.example/g01182/impl", byteOffset := 0 }].toArray) 1 8 (cat [[.pointer none]]) := ⟨underlying122, by kernel_rfl⟩
theorem Zli : Ty prog 148 (.struct [{ name := "b", type := 22, offset := 0, embedded := false, tag := "", pkgPath := "loop.example/g01182/laws", byteOffset := 0 }, { name := "i", type := 3, offset := 1, embedded := false, tag := "", pkgPath := "loop.example/g01182/laws", byteOffset := 24 }, { name := "h", type := 51, offset := 2, embedded := false, tag := "", pkgPath := "loop.example/g01182/laws", byteOffset := 32 }].toArray) 3 40 (cat [[.slice none 0 0], (enc (0 : Int)), [.int .u64 0]]) := ⟨underlying148, by kernel_rfl⟩
theorem kZ : Ty prog 154 (.struct [{ name := "engine", type := 120, offset := 0, embedded := false, tag := "", pkgPath := "loop.example/g01182/impl", byteOffset := 0 }, { name := "keys", type := 75, offset := 1, embedded := false, tag := "", pkgPath := "loop.example/g01182/impl", byteOffset := 8 }].toArray) 2 32 (cat [[.pointer none], [.slice none 0 0]]) := ⟨underlying154, by kernel_rfl⟩
theorem KN : Ty prog 181 (.struct [f_ "Kind" 2 0 0, f_ "Number" 2 1 8, f_ "Tag" 32 2 16].toArray) 34 48 (enc (⟨(0 : Int), (0 : Int), xd⟩ : GEvent)) := ⟨underlying181, by kernel_rfl⟩
theorem Zkx : Ty prog 210 (.struct [{ name := "code", type := 22, offset := 0, embedded := false, tag := "", pkgPath := "loop.example/g01182/spec", byteOffset := 0 }, { name := "at", type := 3, offset := 1, embedded := false, tag := "", pkgPath := "loop.example/g01182/spec", byteOffset := 24 }, { name := "hash", type := 51, offset := 2, embedded := false, tag := "", pkgPath := "loop.example/g01182/spec", byteOffset := 32 }].toArray) 3 40 (cat [[.slice none 0 0], (enc (0 : Int)), [.int .u64 0]]) := ⟨underlying210, by kernel_rfl⟩
theorem US : Ty prog 240 (.struct [f_ "Place" 5 0 0, f_ "Data" 22 1 8].toArray) 2 32 (cat [enc (0 : UInt8), [.slice none 0 0]]) := ⟨underlying240, by kernel_rfl⟩
theorem Zku : Ty prog 277 (.pointer 322) 1 8 [.pointer none]:=⟨underlying277,by kernel_rfl⟩
theorem kQ : Ty prog 280 (.struct [{ name := "box", type := 56, offset := 0, embedded := false, tag := "", pkgPath := "loop.example/g01182/impl", byteOffset := 0 }, { name := "backBox", type := 56, offset := 256, embedded := false, tag := "", pkgPath := "loop.example/g01182/impl", byteOffset := 256 }, { name := "places", type := 60, offset := 512, embedded := false, tag := "", pkgPath := "loop.example/g01182/impl", byteOffset := 512 }, { name := "backPlaces", type := 60, offset := 528, embedded := false, tag := "", pkgPath := "loop.example/g01182/impl", byteOffset := 528 }, { name := "mixer", type := 277, offset := 544, embedded := false, tag := "", pkgPath := "loop.example/g01182/impl", byteOffset := 544 }, { name := "backMixer", type := 277, offset := 545, embedded := false, tag := "", pkgPath := "loop.example/g01182/impl", byteOffset := 552 }, { name := "rounds", type := 2, offset := 546, embedded := false, tag := "", pkgPath := "loop.example/g01182/impl", byteOffset := 560 }].toArray) 547 568 (cat [xB, xB, xi, xi, [.pointer none], [.pointer none], (enc (0 : Int))]) := ⟨underlying280, by kernel_rfl⟩
theorem Zcb : Ty prog 320 (.array 4 55) 1024 1024 (enc (Vector.replicate 4 xe)):=⟨s_7,by kernel_rfl⟩
theorem ty322 : Ty prog 322 (.array 4 320) 4096 4096 (enc (Vector.replicate 4 (Vector.replicate 4 xe))):=⟨p_7,by kernel_rfl⟩
theorem Zem : Ty prog 324 (.array 256 4) 256 256 (enc (Vector.replicate 256 false)):=⟨o_8,by kernel_rfl⟩
theorem Zoj : Ty prog 329 (.array 16 4) 16 16 (enc (Vector.replicate 16 false)):=⟨underlying329,by kernel_rfl⟩
theorem Bg : Fd prog 62 0 0:=Vm Wk.und rfl rfl ty2 (by decide)
theorem HV : Fd prog 62 1 1:=Vm Wk.und rfl rfl Wg (by decide)
theorem Hm : Fd prog 62 2 257:=Vm Wk.und rfl rfl Ve (by decide)
theorem JC : Fd prog 62 3 273:=Vm Wk.und rfl rfl BL (by decide)
theorem jY : Fd prog 62 4 289:=Vm Wk.und rfl rfl ty2 (by decide)
theorem KV : Fd prog 79 0 0:=Vm YX.und rfl rfl BZ (by decide)
theorem Ah : Fd prog 79 1 1:=Vm YX.und rfl rfl ty2 (by decide)
theorem Ke : Fd prog 79 2 2:=Vm YX.und rfl rfl AG (by decide)
theorem HT : Fd prog 79 3 3:=Vm YX.und rfl rfl qh (by decide)
theorem Zjb : Fd prog 79 4 4:=Vm YX.und rfl rfl Yi (by decide)
theorem Hi : Fd prog 98 0 0:=Vm Vd.und rfl rfl ty2 (by decide)
theorem Am : Fd prog 98 1 1:=Vm Vd.und rfl rfl ty2 (by decide)
theorem Zfu : Fd prog 98 2 2:=Vm Vd.und rfl rfl ZD (by decide)
theorem kd : Fd prog 98 3 18:=Vm Vd.und rfl rfl Uf (by decide)
theorem yk : Fd prog 98 4 19:=Vm Vd.und rfl rfl Uf (by decide)
theorem AV : Fd prog 98 5 20:=Vm Vd.und rfl rfl Yi (by decide)
theorem Zky : Fd prog 122 0 0:=Vm Hv.und rfl rfl Zd4 (by decide)
theorem Zkm : Fd prog 148 0 0:=Vm Zli.und rfl rfl Uf (by decide)
theorem Zac : Fd prog 148 1 1:=Vm Zli.und rfl rfl ty3 (by decide)
theorem jx : Fd prog 148 2 2:=Vm Zli.und rfl rfl qO (by decide)
theorem Zlc : Fd prog 154 0 0:=Vm kZ.und rfl rfl Zd4 (by decide)
theorem Zk6 : Fd prog 154 1 1:=Vm kZ.und rfl rfl BZ (by decide)
theorem jl : Fd prog 181 0 0:=Vm KN.und rfl rfl ty2 (by decide)
theorem yL : Fd prog 181 1 1:=Vm KN.und rfl rfl ty2 (by decide)
theorem Zk2 : Fd prog 181 2 2:=Vm KN.und rfl rfl Yi (by decide)
theorem Zk0 : Fd prog 210 0 0:=Vm Zkx.und rfl rfl Uf (by decide)
theorem qW : Fd prog 210 1 1:=Vm Zkx.und rfl rfl ty3 (by decide)
theorem jm : Fd prog 210 2 2:=Vm Zkx.und rfl rfl qO (by decide)
theorem Br : Fd prog 240 0 0:=Vm US.und rfl rfl ty5 (by decide)
theorem Bq : Fd prog 240 1 1:=Vm US.und rfl rfl Uf (by decide)
theorem Zfp : Fd prog 280 0 0:=Vm kQ.und rfl rfl Wg (by decide)
theorem Zr7 : Fd prog 280 1 256:=Vm kQ.und rfl rfl Wg (by decide)
theorem Zq5 : Fd prog 280 2 512:=Vm kQ.und rfl rfl BL (by decide)
theorem Zqp : Fd prog 280 3 528:=Vm kQ.und rfl rfl BL (by decide)
theorem Zrp : Fd prog 280 4 544:=Vm kQ.und rfl rfl Zku (by decide)
theorem Zrj : Fd prog 280 5 545:=Vm kQ.und rfl rfl Zku (by decide)
theorem Zrq : Fd prog 280 6 546:=Vm kQ.und rfl rfl ty2 (by decide)
theorem pl62 : Places prog [f_ "Field" 2 0 0, f_ "Box" 56 1 8, f_ "Mix" 59 257 264, f_ "Places" 60 273 280, f_ "Rounds" 2 289 296] [(0, 1), (1, 256), (257, 16), (273, 16), (289, 1)] := by show _ = _; kernel_rfl
theorem qt : Places prog [f_ "Keys" 75 0 0, f_ "Next" 2 1 24, f_ "Records" 76 2 32, f_ "Events" 77 3 56, f_ "Head" 32 4 80] [(0, 1), (1, 1), (2, 1), (3, 1), (4, 32)] := by show _ = _; kernel_rfl
theorem pl98 : Places prog [f_ "Number" 2 0 0, f_ "Version" 2 1 8, f_ "Nonce" 53 2 16, f_ "Label" 22 18 32, f_ "Body" 22 19 56, f_ "Tag" 32 20 80] [(0, 1), (1, 1), (2, 16), (18, 1), (19, 1), (20, 32)] := by show _ = _; kernel_rfl
theorem pl122 : Places prog [{ name := "engine", type := 120, offset := 0, embedded := false, tag := "", pkgPath := "loop.example/g01182/impl", byteOffset := 0 }] [(0, 1)] := by show _ = _; kernel_rfl
theorem pl148 : Places prog [{ name := "b", type := 22, offset := 0, embedded := false, tag := "", pkgPath := "loop.example/g01182/laws", byteOffset := 0 }, { name := "i", type := 3, offset := 1, embedded := false, tag := "", pkgPath := "loop.example/g01182/laws", byteOffset := 24 }, { name := "h", type := 51, offset := 2, embedded := false, tag := "", pkgPath := "loop.example/g01182/laws", byteOffset := 32 }] [(0, 1), (1, 1), (2, 1)] := by show _ = _; kernel_rfl
theorem pl154 : Places prog [{ name := "engine", type := 120, offset := 0, embedded := false, tag := "", pkgPath := "loop.example/g01182/impl", byteOffset := 0 }, { name := "keys", type := 75, offset := 1, embedded := false, tag := "", pkgPath := "loop.example/g01182/impl", byteOffset := 8 }] [(0, 1), (1, 1)] := by show _ = _; kernel_rfl
theorem Zqd : Places prog [f_ "Kind" 2 0 0, f_ "Number" 2 1 8, f_ "Tag" 32 2 16] [(0, 1), (1, 1), (2, 32)] := by show _ = _; kernel_rfl
theorem pl210 : Places prog [{ name := "code", type := 22, offset := 0, embedded := false, tag := "", pkgPath := "loop.example/g01182/spec", byteOffset := 0 }, { name := "at", type := 3, offset := 1, embedded := false, tag := "", pkgPath := "loop.example/g01182/spec", byteOffset := 24 }, { name := "hash", type := 51, offset := 2, embedded := false, tag := "", pkgPath := "loop.example/g01182/spec", byteOffset := 32 }] [(0, 1), (1, 1), (2, 1)] := by show _ = _; kernel_rfl
theorem pl240 : Places prog [f_ "Place" 5 0 0, f_ "Data" 22 1 8] [(0, 1), (1, 1)] := by show _ = _; kernel_rfl
theorem pl280 : Places prog [{ name := "box", type := 56, offset := 0, embedded := false, tag := "", pkgPath := "loop.example/g01182/impl", byteOffset := 0 }, { name := "backBox", type := 56, offset := 256, embedded := false, tag := "", pkgPath := "loop.example/g01182/impl", byteOffset := 256 }, { name := "places", type := 60, offset := 512, embedded := false, tag := "", pkgPath := "loop.example/g01182/impl", byteOffset := 512 }, { name := "backPlaces", type := 60, offset := 528, embedded := false, tag := "", pkgPath := "loop.example/g01182/impl", byteOffset := 528 }, { name := "mixer", type := 277, offset := 544, embedded := false, tag := "", pkgPath := "loop.example/g01182/impl", byteOffset := 544 }, { name := "backMixer", type := 277, offset := 545, embedded := false, tag := "", pkgPath := "loop.example/g01182/impl", byteOffset := 552 }, { name := "rounds", type := 2, offset := 546, embedded := false, tag := "", pkgPath := "loop.example/g01182/impl", byteOffset := 560 }] [(0, 256), (256, 256), (512, 16), (528, 16), (544, 1), (545, 1), (546, 1)] := by show _ = _; kernel_rfl
theorem YJ : prog.follows .mixedOrders = true:=by kernel_rfl
theorem cb17 : Callable prog 17:=cbm func17
theorem cb29 : Callable prog 29:=cbm func29
theorem cb48 : Callable prog 48:=cbm func48
theorem KT : Callable prog 79:=cbm func79
theorem cb81 : Callable prog 81:=cbm func81
theorem Zi5 : Callable prog 84:=cbm func84
theorem Zhj : Callable prog 91:=cbm func91
theorem Zgz : Callable prog 104:=cbm func104
theorem Zo0 : Callable prog 106:=cbm func106
theorem JI : Callable prog 108:=cbm func108
theorem Zpf : Callable prog 122:=cbm func122
theorem Zn0 : Callable prog 123:=cbm func123
theorem Zpl : Callable prog 124:=cbm func124
theorem Zeb : Callable prog 132:=cbm func132
theorem Zow : Callable prog 133:=cbm func133
theorem y8 : Callable prog 135:=cbm func135
theorem Zp5 : Callable prog 136:=cbm func136
theorem Zpp : Callable prog 137:=cbm func137
theorem Zgc : Callable prog 140:=cbm func140
theorem Znu : Callable prog 141:=cbm func141
theorem Zcp : Callable prog 148:=cbm func148
theorem Zqh : Callable prog 177:=cbm func177
theorem Zon : Callable prog 179:=cbm func179
theorem Zpt : Callable prog 195:=cbm func195
theorem Zn5 : Callable prog 196:=cbm func196
theorem Zkt : Callable prog 201:=cbm func201
theorem z6 : Callable prog 206:=cbm func206
theorem Zpe : Callable prog 210:=cbm func210
theorem Zop : Callable prog 217:=cbm func217
theorem Zp8 : Callable prog 232:=cbm func232
theorem Zoh : Callable prog 235:=cbm func235
theorem Zpx : Callable prog 262:=cbm func262
theorem Zp4 : Callable prog 263:=cbm func263
theorem A5 : Callable prog 289:=cbm func289
theorem ya : Callable prog 311:=cbm func311
theorem Zn7 : Callable prog 330:=cbm func330
theorem Zpq : Callable prog 333:=cbm func333
def yC (b : List UInt8) : Option (Bool) :=
 some (decide ((b.length : Int) > 4096))
theorem Zjq (d : World) (e : List UInt8) (b : Value) (c : Ro d e [b]) (r : Bool) (hF : yC e = some r) :
  Calls prog 7 [b].toArray d (Rt d (vT r)):=by
 refine ce func7 ?_
 intro a H
 have I:=M.start d
 unfold yC at hF
 refine Zb (Zc H R λa H=>Ze (Zb (Zd H R λa H=>Yp H R o_2 (I.rd c) λa H=>Zm H R R R λa H=>Zc H R λa H=>Ze ?_)))
 obtain rfl:=o_1 hF
 exact u_2 (kr1 H R R I.kept)
def Jh (e : List UInt8) (b : Int × Int) : Option (Fl (Int × Int) Int) :=
 (if decide (b.2 < (e.length : Int)) then (some (decide (b.2 < 4096))) else (some false) : Option (Bool)).bind λc=>if c then ((idx e b.2).bind λd=>some (Fl.nx (IntKind.u64.wrap ((IntKind.u64.wrap ((IntKind.u64.wrap (b.1 * 1099511628211)) + (bI d))) + 11),wr (b.2 + 1)))) else (some (Fl.ex b.1))
def T1 (b : List UInt8) : Option ((Int × Int)) :=
 (ZK (Jh b) (IntKind.u64.wrap (9001 + (IntKind.u64.wrap (b.length : Int))),0)).bind λc=>some (0,c)
theorem A4 (St : Nat → Prop) (W B : World) (n : Item) (l : List UInt8) (c : Value) (e : Rep.sat St W l [c] []) (I : M St W B [n]) (r : xr) (hF : T1 l = some r) :
  Calls prog 77 [c].toArray B (e_r λv w'=>(∃ (b : Nat),v = ptr b 0 ∧ M St W w' [raw b (cat [[c],[vI r.1],[Value.int .u64 r.2]]),n])):=by
 refine ce func77 ?_
 intro a H
 unfold T1 at hF
 refine Zb (Zc H R λa H=>Ze (Zb (Zd H R λa H=>Zd H R λa H=>Yp H R o_2 (I.rd e) λa H=>BD H Za ld R o_6 u_6 λa H=>Zm H R R R λa H=>YQ (parts:=[(0,.tmp 5),(2,.tmp 9)]) (vs:=[(0,c),(2,Value.int .u64 (IntKind.u64.wrap (9001 + (IntKind.u64.wrap (l.length : Int)))))]) (cs:=cat [[c],[vI 0],[Value.int .u64 (IntKind.u64.wrap (9001 + (IntKind.u64.wrap (l.length : Int))))]]) H Za ld R R Zkx pl210 (Yk (pre:=[]) (seg:=[xf]) (seg':=[c]) (post:=[[vI 0],[Value.int .u64 0]]) R cl0 R R (Ym (I.rd e)) (Yk (pre:=[[c],[vI 0]]) (seg:=[Value.int .u64 0]) (seg':=[Value.int .u64 (IntKind.u64.wrap (9001 + (IntKind.u64.wrap (l.length : Int))))]) (post:=[]) R ck R R R XL)) λa H=>ZY (cs:=cat [[c],[vI 0],[Value.int .u64 (IntKind.u64.wrap (9001 + (IntKind.u64.wrap (l.length : Int))))]]) H I Za ld R R λm w a I H=>Zc H R λa H=>Ze (s_2 (Zb (Zc H R λa H=>Ze ?_))))))
 obtain ⟨C,t,x⟩:=p_1 hF
 refine ZX (λa w=>Env 38 a [(3,ptr m 0)] ∧ M St W w [raw m (cat [[c],[vI 0],[Value.int .u64 C]]),n]) ?_ ?_
 ·refine p_2 ?_
  refine ZN (λ(i : Int × Int) a w=>Env 38 a [(0,c),(3,ptr m 0),(4,vI i.2)] ∧ M St W w [raw m (cat [[c],[vI 0],[Value.int .u64 i.1]]),n]) t ⟨H.s,I⟩ ?_
  rintro i a w ⟨H,I⟩ F o y
  unfold Jh at o
  refine s_2 ?_
  obtain ⟨A,h,f⟩:=p_1 o
  refine ZG (λa w=>Env 38 a [(0,c),(3,ptr m 0),(4,vI i.2),(19,vT A)] ∧ M St W w [raw m (cat [[c],[vI 0],[Value.int .u64 i.1]]),n]) ?_ ?_
  ·refine s_1 (Zd H R λa H=>Zd H R λa H=>Yp H R o_2 (I.rd e) λa H=>Zm H R R R λa H=>Zd H R λa H=>?_)
   refine Yq (decide (i.2 < (l.length : Int))) (λd=>?_) (λd=>?_)
   ·have h:=Zt h d
    refine Zl H (Zh H R (lkb R d)) dd_ R λa H=>Ye H (Zh H R (lkb R d)) dd_ R R R λa H=>Z2 H (lkb R d) R λa H=>Zf ?_
    obtain rfl:=o_1 h
    refine Zi ?_
    exact ⟨H.s,I⟩
   have h:=Zs h d
   refine k_s H d R R R λa H=>k_s H d R R R λa H=>ZZ H (lkb R d) R λa H=>Zf ?_
   obtain rfl:=o_1 h
   refine Zi ?_
   exact ⟨H.s,I⟩
  rintro a w ⟨H,I⟩
  refine c_if H R f ?_ ?_
  ·intro q f
   refine t_2 (Zw (s_2 (p_2 ?_)))
   obtain ⟨j,k,f⟩:=bix f
   refine Z7 [22,23,24,25,26,27,28,29,30,31,32,33,34,35,36] YJ R R dd_ R H I (q_m (λ_=>R) (q_m (λ_=>R) (qsP (λz=>Ya z.E Za ld R (kr0 R)) (qsP (λz=>Zo z.E Za ld R (jm) (kr0 R)) (qsP (λz=>ZL (v:=(Value.int .u64 i.1)) z.E Za ld R qO R (at_2 (z.M.ra0)) (kr0 R)) (qsP (v:=(Value.int .u64 (IntKind.u64.wrap (i.1 * 1099511628211)))) (λz=>Ye z.E Za ld R R R (kr0 R)) (q_m (λ_=>R) (q_m (λ_=>R) (qsP (λz=>XD z.E Za ld R R o_2 ty5 (z.M.rd e) k.1 (kr0 R)) (qsP (λz=>ZL (v:=(vB j)) z.E Za ld R ty5 R (Xx (z.M.rd e) k.2) (kr0 R)) (qsP (λz=>Zlb z.E Za ld R t_3 u_6 (kr0 R)) (qsP (v:=(Value.int .u64 (IntKind.u64.wrap ((IntKind.u64.wrap (i.1 * 1099511628211)) + (bI j))))) (λz=>Ye z.E Za ld R R R (kr0 R)) (qsP (v:=(Value.int .u64 (IntKind.u64.wrap ((IntKind.u64.wrap ((IntKind.u64.wrap (i.1 * 1099511628211)) + (bI j))) + 11)))) (λz=>Ye z.E Za ld R R R (kr0 R)) (qsP (λz=>Ya z.E Za ld R (kr0 R)) (qsP (λz=>Zo z.E Za ld R (jm) (kr0 R)) qs0))))))))))))))) ?_
   ·intro a w u H I
    refine Zk (seg:=[Value.int .u64 (IntKind.u64.wrap ((IntKind.u64.wrap ((IntKind.u64.wrap (i.1 * 1099511628211)) + (bI j))) + 11))]) H I Za R R R qO R (Wl (pre:=[[c],[vI 0]]) ck R) Zaa (YL (pre:=[[c],[vI 0]]) ck R) λw a I H=>Zf (Yn (Zw (s_1 (Zd H R λa H=>Zm H R R R λa H=>Zc H R λa H=>Zf (Zi ?_)))))
    exact ⟨_,ois f,H.s,I⟩
  intro q f
  refine s_3 (Zp (Zp (Yv ?_)))
  obtain rfl:=y _ (ois f)
  refine Zi ?_
  exact ⟨H.s,I⟩
 rintro a w ⟨H,I⟩
 refine Zw (Zb (Zd H R λa H=>Zc H R λa H=>Ze ?_))
 obtain rfl:=o_1 x
 exact u_2 (ZT H R (Zy H R) ⟨_,R,m,R,I⟩)
def ZQ (c : List UInt8) (b : (Int × Int)) (d : Int) : Option ((Int × Int) × Int) :=
 if decide (d < 1) then (some ((b.1,b.2),0)) else (((some (decide (b.1 < (c.length : Int))) : Option (Bool)).bind λi=>if i then (((idx c b.1).bind λe=>some (wr ((IntKind.i64.wrap (wru (BitVec.ofInt 64 (Qp (IntKind.u64.wrap ((IntKind.u64.wrap (b.2 * 6364136223846793005)) + 1442695040888963407)) 33) &&& BitVec.ofInt 64 16777215).toNat)) + (bI e))) : Option (Int)).bind λf=>some (wr (b.1 + 1),f)) else (some (b.1,IntKind.i64.wrap (wru (BitVec.ofInt 64 (Qp (IntKind.u64.wrap ((IntKind.u64.wrap (b.2 * 6364136223846793005)) + 1442695040888963407)) 33) &&& BitVec.ofInt 64 16777215).toNat))) : Option (Int × Int)).bind λh=>(Bu d).bind λ_=>some ((h.1,IntKind.u64.wrap ((IntKind.u64.wrap (b.2 * 6364136223846793005)) + 1442695040888963407)),Int.tmod h.2 d))
theorem ZU (St : Nat → Prop) (W C : World) (m : Item) (d : Nat) (i : List UInt8) (b : Value) (e : Rep.sat St W i [b] []) (c : xr) (n : Int) (I : M St W C [raw d (cat [[b],[vI c.1],[Value.int .u64 c.2]]),m]) (r : xr × Int) (hF : ZQ i c n = some r) :
  Calls prog 79 [ptr d 0,vI n].toArray C (e_r λv w'=>(v = (vI r.2) ∧ M St W w' [raw d (cat [[b],[vI r.1.1],[Value.int .u64 r.1.2]]),m])):=by
 refine ce func79 ?_
 intro a H
 unfold ZQ at hF
 refine Zb (Zc H R λa H=>Ze (s_2 (Zb (Zd H R λa H=>Zm H R R R λa H=>Ze ?_))))
 refine c_if H R hF ?_ ?_
 ·intro x hF
  refine Zb (Zc H R λa H=>Ze ?_)
  obtain rfl:=o_1 hF
  exact u_2 (ZA (ZT H R (Zy H R) ⟨_,R,R,I⟩))
 intro x hF
 refine t_2 (Zw (Zb (Zd H R λa H=>Zd H R λa H=>Ya H Za ld R λa H=>Zr H R (jm) λa H=>ZO (v:=(Value.int .u64 c.2)) H R qO R (at_2 I.ra0) λa H=>Zm H R R R λa H=>Zm H R R R λa H=>Ya H Za ld R λa H=>Zr H R (jm) λa H=>Zk (seg:=[Value.int .u64 (IntKind.u64.wrap ((IntKind.u64.wrap (c.2 * 6364136223846793005)) + 1442695040888963407))]) H I Za R R R qO R (Wl (pre:=[[b],[vI c.1]]) ck R) Zaa (YL (pre:=[[b],[vI c.1]]) ck R) λw a I H=>Ze (Zb (Zd H R λa H=>Ya H Za ld R λa H=>?_)))))
 refine Zr H R (jm) λa H=>ZO (v:=(Value.int .u64 (IntKind.u64.wrap ((IntKind.u64.wrap (c.2 * 6364136223846793005)) + 1442695040888963407)))) H R qO R (at_2 I.ra0) λa H=>yd H Za ld R R (Zod _ _ dd_) λa H=>Zm H R R R λa H=>BD H Za ld R u_6 t_4 λa H=>Zc H R λa H=>Ze ?_
 obtain ⟨F,y,k⟩:=p_1 hF
 refine ZG (λa w=>Env 58 a [(1,vI n),(5,vI F.2)] ∧ M St W w [raw d (cat [[b],[vI F.1],[Value.int .u64 (IntKind.u64.wrap ((IntKind.u64.wrap (c.2 * 6364136223846793005)) + 1442695040888963407))]]),m]) ?_ ?_
 ·obtain ⟨G,A,f⟩:=p_1 y
  refine ZG (λa w=>Env 58 a [(0,ptr d 0),(1,vI n),(5,vI (IntKind.i64.wrap (wru (BitVec.ofInt 64 (Qp (IntKind.u64.wrap ((IntKind.u64.wrap (c.2 * 6364136223846793005)) + 1442695040888963407)) 33) &&& BitVec.ofInt 64 16777215).toNat))),(33,vT G)] ∧ M St W w [raw d (cat [[b],[vI c.1],[Value.int .u64 (IntKind.u64.wrap ((IntKind.u64.wrap (c.2 * 6364136223846793005)) + 1442695040888963407))]]),m]) ?_ ?_
  ·refine Z7 [24,25,26,27,28,29,30,31,32,33] YJ R R dd_ R H I (q_m (λ_=>R) (qsP (λz=>Ya z.E Za ld R (kr0 R)) (qsP (λz=>Zo z.E Za ld R (qW) (kr0 R)) (qsP (λz=>ZL (v:=(vI c.1)) z.E Za ld R ty3 R (at_1 (z.M.ra0)) (kr0 R)) (q_m (λ_=>R) (qsP (λz=>Ya z.E Za ld R (kr0 R)) (qsP (λz=>Zo z.E Za ld R (Zk0) (kr0 R)) (qsP (λz=>ZL (v:=b) z.E Za ld R Uf R (at_0 (z.M.ra0)) (kr0 R)) (qsP (λz=>Q7 z.E Za ld R o_2 (z.M.rd e) (kr0 R)) (qsP (λz=>Ye z.E Za ld R R R (kr0 R)) qs0)))))))))) ?_
   ·intro a w u H I
    refine Zf ?_
    obtain rfl:=o_1 A
    refine Zi ?_
    exact ⟨H.s,I⟩
  rintro a w ⟨H,I⟩
  refine c_if H R f ?_ ?_
  ·intro o f
   obtain ⟨B,h,q⟩:=p_1 f
   refine ZG (λa w=>Env 58 a [(0,ptr d 0),(1,vI n),(5,vI B)] ∧ M St W w [raw d (cat [[b],[vI c.1],[Value.int .u64 (IntKind.u64.wrap ((IntKind.u64.wrap (c.2 * 6364136223846793005)) + 1442695040888963407))]]),m]) ?_ ?_
   ·obtain ⟨t,j,h⟩:=bix h
    refine Z7 [34,35,36,37,38,39,40,41,42,43,44,45,46] YJ R R dd_ R H I (q_m (λ_=>R) (q_m (λ_=>R) (qsP (λz=>Ya z.E Za ld R (kr0 R)) (qsP (λz=>Zo z.E Za ld R (Zk0) (kr0 R)) (qsP (λz=>ZL (v:=b) z.E Za ld R Uf R (at_0 (z.M.ra0)) (kr0 R)) (q_m (λ_=>R) (qsP (λz=>Ya z.E Za ld R (kr0 R)) (qsP (λz=>Zo z.E Za ld R (qW) (kr0 R)) (qsP (λz=>ZL (v:=(vI c.1)) z.E Za ld R ty3 R (at_1 (z.M.ra0)) (kr0 R)) (qsP (λz=>XD z.E Za ld R R o_2 ty5 (z.M.rd e) j.1 (kr0 R)) (qsP (λz=>ZL (v:=(vB t)) z.E Za ld R ty5 R (Xx (z.M.rd e) j.2) (kr0 R)) (qsP (λz=>zL z.E Za ld R t_3 t_4 (kr0 R)) (qsP (v:=(vI (wr ((IntKind.i64.wrap (wru (BitVec.ofInt 64 (Qp (IntKind.u64.wrap ((IntKind.u64.wrap (c.2 * 6364136223846793005)) + 1442695040888963407)) 33) &&& BitVec.ofInt 64 16777215).toNat)) + (bI t))))) (λz=>Ye z.E Za ld R R R (kr0 R)) qs0))))))))))))) ?_
    ·intro a w u H I
     refine Zc H R λa H=>Zf ?_
     obtain rfl:=o_1 h
     refine Zi ?_
     exact ⟨H.s,I⟩
   rintro a w ⟨H,I⟩
   refine s_1 (Zd H R λa H=>Zd H R λa H=>Ya H Za ld R λa H=>Zr H R (qW) λa H=>ZO (v:=(vI c.1)) H R ty3 R (at_1 I.ra0) λa H=>Zm H R R R λa H=>Ya H Za ld R λa H=>Zr H R (qW) λa H=>Zk (seg:=[vI (wr (c.1 + 1))]) H I Za R R R ty3 R (Wl (pre:=[[b]]) ck R) (t_1 (wr (c.1 + 1) : Int)) (YL (pre:=[[b]]) ck R) λw a I H=>Zf ?_)
   obtain rfl:=o_1 q
   refine Zi ?_
   exact ⟨H.s,I⟩
  intro o f
  refine t_2 ?_
  obtain rfl:=o_1 f
  refine Zi ?_
  exact ⟨H.s,I⟩
 rintro a w ⟨H,I⟩
 refine Zb (Zd H R λa H=>Zd H R λa H=>?_)
 obtain ⟨_,l,k⟩:=p_1 k
 have l:=yW l
 refine Zm H R R (J2 _ _ l) λa H=>Zc H R λa H=>Ze ?_
 obtain rfl:=o_1 k
 exact u_2 (ZT H R (Zy H R) ⟨_,R,R,I⟩)
def X8 (b : List UInt8) (d : (Int × Int)) (e : List Int) : Option ((Int × Int) × Int) :=
 (ZQ b (d.1,d.2) (e.length : Int)).bind λc=>(idx e c.2).bind λf=>some ((c.1.1,c.1.2),f)
theorem UV (St : Nat → Prop) (W k : World) (l : Item) (d : Nat) (c : List UInt8) (b : Value) (e : Rep.sat St W c [b] []) (f : xr) (i : List Int) (j : Value) (I : M St W k [raw d (cat [[b],[vI f.1],[Value.int .u64 f.2]]),osl NoB i j,l]) (r : xr × Int) (hF : X8 c f i = some r) :
  Calls prog 148 [ptr d 0,j].toArray k (e_r λv w'=>(v = (vI r.2) ∧ M St W w' [raw d (cat [[b],[vI r.1.1],[Value.int .u64 r.1.2]]),osl NoB i j,l])):=by
 refine ce func148 ?_
 intro a H
 unfold X8 at hF
 refine Zb (Zc H R λa H=>Ze (Zb (Zd H R λa H=>Zd H R λa H=>Zd H R λa H=>Yp H R s_4 (I.sl1) λa H=>?_)))
 have I:=M.tailP (m:=[_]) I
 obtain ⟨n,o,hF⟩:=p_1 hF
 refine Zn H R KT (ZU _ _ _ _ d c b e (f.1,f.2) (i.length : Int) I n o) ?_
 rintro v w a ⟨rfl,I⟩ H
 have I:=M.tailU (m:=[_]) I
 simp only [l_c,l_n] at I
 obtain ⟨q,h,hF⟩:=bix hF
 refine Ys H R R s_4 ty2 (I.sl1) h.1 λa H=>ZO (v:=(vI q)) H R ty2 R (Xx (I.sl1) h.2) λa H=>Zc H R λa H=>Ze ?_
 obtain rfl:=o_1 hF
 exact u_2 (ZT H R (Zy H R) ⟨_,R,R,I⟩)
def WK (f : Int) (b : Int × Int × Int) : Option (Fl (Int × Int × Int) Int) :=
 if decide (b.2.2 > 0) then (((if (Int.tmod b.2.2 2) == 1 then (some (BY b.1 b.2.1)) else (some b.1) : Option (Int)).bind λc=>(if decide ((wr (b.2.1 * 2)) ≥ 256) then (some (BY (wr (b.2.1 * 2)) f)) else (some (wr (b.2.1 * 2))) : Option (Int)).bind λd=>some (c,d) : Option (Int × Int)).bind λe=>some (Fl.nx (e.1,e.2,wr (Int.tdiv b.2.2 2)))) else (some (Fl.ex b.1))
def YO (b : Int) (c : UInt8) (d : UInt8) : Option (UInt8) :=
 (ZK (WK b) (0,bI c,bI d)).bind λe=>some (Zz e)
theorem X9 (d : World) (h : Int) (z : UInt8) (A : UInt8) (r : UInt8) (hF : YO h z A = some r) :
  Calls prog 311 [vI h,vB z,vB A].toArray d (Rt d (vB r)):=by
 refine ce func311 ?_
 intro a H
 have I:=M.start d
 unfold YO at hF
 refine Zb (Zc H R λa H=>Ze (Zb (Zd H R λa H=>zL H Za ld R t_3 t_4 λa H=>Zc H R λa H=>Zc H R λa H=>Ze (s_2 (Zb (Zd H R λa H=>zL H Za ld R t_3 t_4 λa H=>Zc H R λa H=>Ze ?_))))))
 obtain ⟨C,q,t⟩:=p_1 hF
 refine ZX (λa w=>Env 33 a [(7,vI C)] ∧ M (Old d) d w []) ?_ ?_
 ·refine p_2 ?_
  refine ZN (λ(f : Int × Int × Int) a w=>Env 33 a [(0,vI h),(7,vI f.1),(8,vI f.2.1),(9,vI f.2.2)] ∧ M (Old d) d w []) q ⟨H.s,I⟩ ?_
  rintro f a w ⟨H,I⟩ E e u
  unfold WK at e
  refine s_2 (Zb (Zd H R λa H=>Zm H R R R λa H=>Ze ?_))
  refine c_if H R e ?_ ?_
  ·intro x e
   refine t_2 (Zw ?_)
   obtain ⟨B,i,j⟩:=p_1 e
   refine ZG (λa w=>Env 33 a [(0,vI h),(7,vI B.1),(8,vI B.2),(9,vI f.2.2)] ∧ M (Old d) d w []) ?_ ?_
   ·refine p_2 ?_
    obtain ⟨k,b,l⟩:=p_1 i
    refine ZG (λa w=>Env 33 a [(0,vI h),(7,vI k),(8,vI f.2.1),(9,vI f.2.2)] ∧ M (Old d) d w []) ?_ ?_
    ·refine Zb (Zd H R λa H=>Zm H R R (J2 _ _ dd_) λa H=>Zm H R R R λa H=>Ze ?_)
     refine c_if H R b ?_ ?_
     ·intro m b
      refine s_1 (Zd H R λa H=>Zd H R λa H=>Zm H R R R λa H=>Zc H R λa H=>Zf ?_)
      obtain rfl:=o_1 b
      refine Zi ?_
      exact ⟨H.s,I⟩
     intro m b
     refine t_2 ?_
     obtain rfl:=o_1 b
     refine Zi ?_
     exact ⟨H.s,I⟩
    rintro a w ⟨H,I⟩
    refine Zb (Zd H R λa H=>Zm H R R R λa H=>Zc H R λa H=>Ze (Zb (Zd H R λa H=>Zm H R R R λa H=>Ze ?_)))
    obtain ⟨y,c,n⟩:=p_1 l
    refine ZX (λa w=>Env 33 a [(0,vI h),(7,vI k),(8,vI y),(9,vI f.2.2)] ∧ M (Old d) d w []) ?_ ?_
    ·refine c_if H R c ?_ ?_
     ·intro o c
      refine s_1 (Zd H R λa H=>Zd H R λa H=>Zm H R R R λa H=>Zc H R λa H=>Zf ?_)
      obtain rfl:=o_1 c
      refine Zi ?_
      exact ⟨H.s,I⟩
     intro o c
     refine t_2 ?_
     obtain rfl:=o_1 c
     refine Zi ?_
     exact ⟨H.s,I⟩
    rintro a w ⟨H,I⟩
    refine Yn ?_
    obtain rfl:=o_1 n
    refine Zi ?_
    exact ⟨H.s,I⟩
   rintro a w ⟨H,I⟩
   refine s_1 (Zd H R λa H=>Zm H R R (Zc4 _ _ dd_) λa H=>Zc H R λa H=>Zf (Zi ?_))
   exact ⟨_,ois j,H.s,I⟩
  intro x e
  refine s_3 (Zp (Zp (Yv ?_)))
  obtain rfl:=u _ (ois e)
  refine Zi ?_
  exact ⟨H.s,I⟩
 rintro a w ⟨H,I⟩
 refine Zw (Zb (Zd H R λa H=>Xq H Za ld R t_4 t_3 λa H=>Zc H R λa H=>Ze ?_))
 obtain rfl:=o_1 t
 exact u_2 (kr1 H R R I.kept)
def XS (h : Int) (b : UInt8 × UInt8 × Int) : Option (Fl (UInt8 × UInt8 × Int) UInt8) :=
 if decide (b.2.2 > 0) then (((if (Int.tmod b.2.2 2) == 1 then ((YO h b.1 b.2.1).bind λd=>some d) else (some b.1) : Option (UInt8)).bind λe=>(YO h b.2.1 b.2.1).bind λf=>some (e,f) : Option (UInt8 × UInt8)).bind λc=>some (Fl.nx (c.1,c.2,wr (Int.tdiv b.2.2 2)))) else (some (Fl.ex b.1))
def WF (d : Int) (e : Int) (b : V256 × Int) : Option (Fl (V256 × Int) V256) :=
 if decide (b.2 < 256) then ((ZK (XS d) (1,Zz b.2,e)).bind λc=>(ZP b.1 b.2).bind λf=>some (Fl.nx ((b.1.setIfInBounds (b.2).toNat c),wr (b.2 + 1)))) else (some (Fl.ex b.1))
def Wx (b : Int) (c : Int) : Option (V256) :=
 (ZK (WF b c) ((Vector.replicate 256 (0 : UInt8)),0)).bind λd=>some d
theorem Ho (e : World) (o : Int) (q : Int) (r : V256) (hF : Wx o q = some r) :
  Calls prog 262 [vI o,vI q].toArray e (Rt e (Value.agg (enc r).toArray)):=by
 refine ce func262 ?_
 intro a H
 have I:=M.start e
 unfold Wx at hF
 refine Zb (Zx H I Wg λj w a I H=>Ze (Zb (Xi (parts:=[]) (vs:=[]) (cs:=enc xe) H Za ld R R Wg R ty5 YK λa H=>Zx H I Wg λk w a I H=>s_w xe H I Za R R R Wg λw a I H=>Ze (s_2 (Zb (Zc H R λa H=>Ze ?_))))))
 obtain ⟨X,K,L⟩:=p_1 hF
 refine ZX (λa w=>Env 37 a [(4,ptr j 0),(5,ptr k 0)] ∧ M (Old e) e w [raw k (enc X),raw j xB]) ?_ ?_
 ·refine p_2 ?_
  refine ZN (λ(f : V256 × Int) a w=>Env 37 a [(0,vI o),(1,vI q),(4,ptr j 0),(5,ptr k 0),(6,vI f.2)] ∧ M (Old e) e w [raw k (enc f.1),raw j xB]) K ⟨H.s,I⟩ ?_
  rintro f a w ⟨H,I⟩ Y h t
  unfold WF at h
  refine s_2 (Zb (Zd H R λa H=>Zm H R R R λa H=>Ze ?_))
  refine c_if H R h ?_ ?_
  ·intro u h
   refine t_2 (Zw (s_2 (p_2 (Zb (Zd H R λa H=>Xq H Za ld R o_6 t_3 λa H=>Zc H R λa H=>Zc H R λa H=>Ze (s_2 (Zb (Zd H R λa H=>Zc H R λa H=>Ze ?_))))))))
   obtain ⟨i,y,l⟩:=p_1 h
   refine ZX (λa w=>Env 37 a [(0,vI o),(1,vI q),(4,ptr j 0),(5,ptr k 0),(6,vI f.2),(7,vB i)] ∧ M (Old e) e w [raw k (enc f.1),raw j xB]) ?_ ?_
   ·refine p_2 ?_
    refine ZN (λ(b : UInt8 × UInt8 × Int) a w=>Env 37 a [(0,vI o),(1,vI q),(4,ptr j 0),(5,ptr k 0),(6,vI f.2),(7,vB b.1),(8,vB b.2.1),(9,vI b.2.2)] ∧ M (Old e) e w [raw k (enc f.1),raw j xB]) y ⟨H.s,I⟩ ?_
    rintro b a w ⟨H,I⟩ Z d z
    unfold XS at d
    refine s_2 (Zb (Zd H R λa H=>Zm H R R R λa H=>Ze ?_))
    refine c_if H R d ?_ ?_
    ·intro A d
     refine t_2 (Zw ?_)
     obtain ⟨B,C,E⟩:=p_1 d
     refine ZG (λa w=>Env 37 a [(0,vI o),(1,vI q),(4,ptr j 0),(5,ptr k 0),(6,vI f.2),(7,vB B.1),(8,vB B.2),(9,vI b.2.2)] ∧ M (Old e) e w [raw k (enc f.1),raw j xB]) ?_ ?_
     ·refine p_2 ?_
      obtain ⟨N,c,m⟩:=p_1 C
      refine ZG (λa w=>Env 37 a [(0,vI o),(1,vI q),(4,ptr j 0),(5,ptr k 0),(6,vI f.2),(7,vB N),(8,vB b.2.1),(9,vI b.2.2)] ∧ M (Old e) e w [raw k (enc f.1),raw j xB]) ?_ ?_
      ·refine Zb (Zd H R λa H=>Zm H R R (J2 _ _ dd_) λa H=>Zm H R R R λa H=>Ze ?_)
       refine c_if H R c ?_ ?_
       ·intro F c
        refine s_1 (Zd H R λa H=>Zd H R λa H=>Zd H R λa H=>?_)
        obtain ⟨O,T,c⟩:=p_1 c
        refine c_k H I R ya (X9 _ o b.1 b.2.1 O T) λw a I H=>?_
        refine Zc H R λa H=>Zf ?_
        obtain rfl:=o_1 c
        refine Zi ?_
        exact ⟨H.s,I⟩
       intro F c
       refine t_2 ?_
       obtain rfl:=o_1 c
       refine Zi ?_
       exact ⟨H.s,I⟩
      rintro a w ⟨H,I⟩
      refine s_1 (Zd H R λa H=>Zd H R λa H=>Zd H R λa H=>?_)
      obtain ⟨U,W,m⟩:=p_1 m
      refine c_k H I R ya (X9 _ o b.2.1 b.2.1 U W) λw a I H=>?_
      refine Zc H R λa H=>Zf (Yn ?_)
      obtain rfl:=o_1 m
      refine Zi ?_
      exact ⟨H.s,I⟩
     rintro a w ⟨H,I⟩
     refine s_1 (Zd H R λa H=>Zm H R R (Zc4 _ _ dd_) λa H=>Zc H R λa H=>Zf (Zi ?_))
     exact ⟨_,ois E,H.s,I⟩
    intro A d
    refine s_3 (Zp (Zp (Yv ?_)))
    obtain rfl:=z _ (ois d)
    refine Zi ?_
    exact ⟨H.s,I⟩
   rintro a w ⟨H,I⟩
   refine Zw (s_1 (Zd H R λa H=>Zd H R λa H=>?_))
   obtain ⟨aa,n,l⟩:=bvx l
   refine ZC H R R u_4 ty5 n.1 λa H=>Zk (seg:=[vB i]) (cs':=enc (f.1.setIfInBounds (f.2).toNat i)) H I Za R R R ty5 R (ZS (v:=f.1) (x:=i) n.1) (t_1 (i : UInt8)) (ZF (v:=f.1) (x:=i) n.1) λw a I H=>Zf (Yn (Zw (s_1 (Zd H R λa H=>Zm H R R R λa H=>Zc H R λa H=>Zf (Zi ?_)))))
   exact ⟨_,ois l,H.s,I⟩
  intro u h
  refine s_3 (Zp (Zp (Yv ?_)))
  obtain rfl:=t _ (ois h)
  refine Zi ?_
  exact ⟨H.s,I⟩
 rintro a w ⟨H,I⟩
 refine Zw (Zb (Zu H R Wg R I.ra0 (u_1 _) λa H=>?_))
 have I:=I.pl1
 refine s_w X H I Za R R R Wg λw a I H=>Ze ?_
 obtain rfl:=o_1 L
 have G : Z8 prog _ _ (.cell 4 56) _:=ZH H R Wg R I.ra0 (u_1 _) R
 exact u_2 (ZT H R G ⟨_,R,R,I.kept⟩)
def VY (c : UInt8) (b : Int) : Option (UInt8) :=
 (XM (IntKind.u64.wrap b)).bind λ_=>some (Zz (Zin (orI (BJ (bI c) (IntKind.u64.wrap b)) (Qp (BJ (bI c) (IntKind.u64.wrap b)) 8)) 255))
theorem Zcf (b : World) (d : UInt8) (e : Int) (r : UInt8) (hF : VY d e = some r) :
  Calls prog 312 [vB d,vI e].toArray b (Rt b (vB r)):=by
 refine ce func312 ?_
 intro a H
 have I:=M.start b
 unfold VY at hF
 refine Zb (Zc H R λa H=>Ze (Zb (Zd H R λa H=>zL H Za ld R t_3 t_4 λa H=>Zd H R λa H=>BD H Za ld R t_4 u_6 λa H=>?_)))
 obtain ⟨_,c,hF⟩:=p_1 hF
 have c:=VG c
 refine yd H Za ld R R (kK _ _ c) λa H=>Zc H R λa H=>Ze (Zb (Zd H R λa H=>Zd H R λa H=>yd H Za ld R R (Ze4 _ _ dd_) λa H=>Zm H R R R λa H=>Zm H R R R λa H=>Xq H Za ld R t_4 t_3 λa H=>Zc H R λa H=>Ze ?_))
 obtain rfl:=o_1 hF
 exact u_2 (kr1 H R R I.kept)
def YB (e : List Int) (f : V256 × Int) (b : UInt8 × Int) : Option (Fl (UInt8 × Int) UInt8) :=
 if decide (b.2 < (e.length : Int)) then ((idx e b.2).bind λc=>(VY (Zz f.2) c).bind λd=>some (Fl.nx (b.1 ^^^ d,wr (b.2 + 1)))) else (some (Fl.ex b.1))
def XE (d : List Int) (e : UInt8) (b : V256 × Int) : Option (Fl (V256 × Int) V256) :=
 if decide (b.2 < 256) then ((ZK (YB d b) (e,0)).bind λc=>(ZP b.1 b.2).bind λf=>some (Fl.nx ((b.1.setIfInBounds (b.2).toNat c),wr (b.2 + 1)))) else (some (Fl.ex b.1))
def Xy (b : List Int) (c : UInt8) : Option (V256) :=
 (ZK (XE b c) ((Vector.replicate 256 (0 : UInt8)),0)).bind λd=>some d
theorem KS (h : World) (L : List Int) (c : Value) (d : Ro h L [c]) (q : UInt8) (r : V256) (hF : Xy L q = some r) :
  Calls prog 263 [c,vB q].toArray h (Rt h (Value.agg (enc r).toArray)):=by
 refine ce func263 ?_
 intro a H
 have I:=M.start h
 unfold Xy at hF
 refine Zb (Zx H I Wg λm w a I H=>Ze (Zb (Xi (parts:=[]) (vs:=[]) (cs:=enc xe) H Za ld R R Wg R ty5 YK λa H=>Zx H I Wg λn w a I H=>s_w xe H I Za R R R Wg λw a I H=>Ze (s_2 (Zb (Zc H R λa H=>Ze ?_))))))
 obtain ⟨N,F,G⟩:=p_1 hF
 refine ZX (λa w=>Env 34 a [(4,ptr m 0),(5,ptr n 0)] ∧ M (Old h) h w [raw n (enc N),raw m xB]) ?_ ?_
 ·refine p_2 ?_
  refine ZN (λ(i : V256 × Int) a w=>Env 34 a [(0,c),(1,vB q),(4,ptr m 0),(5,ptr n 0),(6,vI i.2)] ∧ M (Old h) h w [raw n (enc i.1),raw m xB]) F ⟨H.s,I⟩ ?_
  rintro i a w ⟨H,I⟩ O e t
  unfold XE at e
  refine s_2 (Zb (Zd H R λa H=>Zm H R R R λa H=>Ze ?_))
  refine c_if H R e ?_ ?_
  ·intro u e
   refine t_2 (Zw (s_2 (p_2 (Zb (Zd H R λa H=>Zc H R λa H=>Ze (s_2 (Zb (Zc H R λa H=>Ze ?_))))))))
   obtain ⟨f,y,j⟩:=p_1 e
   refine ZX (λa w=>Env 34 a [(0,c),(1,vB q),(4,ptr m 0),(5,ptr n 0),(6,vI i.2),(7,vB f)] ∧ M (Old h) h w [raw n (enc i.1),raw m xB]) ?_ ?_
   ·refine p_2 ?_
    refine ZN (λ(l : UInt8 × Int) a w=>Env 34 a [(0,c),(1,vB q),(4,ptr m 0),(5,ptr n 0),(6,vI i.2),(7,vB l.1),(8,vI l.2)] ∧ M (Old h) h w [raw n (enc i.1),raw m xB]) y ⟨H.s,I⟩ ?_
    rintro l a w ⟨H,I⟩ T b z
    unfold YB at b
    refine s_2 (Zb (Zd H R λa H=>Zd H R λa H=>Yp H R s_4 (I.rd d) λa H=>Zm H R R R λa H=>Ze ?_))
    refine c_if H R b ?_ ?_
    ·intro A b
     refine t_2 (Zw (s_2 (p_2 (s_1 (Zd H R λa H=>Zd H R λa H=>Xq H Za ld R o_6 t_3 λa H=>Zd H R λa H=>Zd H R λa H=>?_)))))
     obtain ⟨B,o,b⟩:=bix b
     refine Ys H R R s_4 ty2 (I.rd d) o.1 λa H=>ZO (v:=(vI B)) H R ty2 R (Xx (I.rd d) o.2) λa H=>?_
     obtain ⟨C,K,b⟩:=p_1 b
     refine c_k H I R (cbm func312) (Zcf _ (Zz i.2) B C K) λw a I H=>?_
     refine Zm H R R (VH l.1 C) λa H=>Zc H R λa H=>Zf (Yn (Zw (s_1 (Zd H R λa H=>Zm H R R R λa H=>Zc H R λa H=>Zf (Zi ?_)))))
     exact ⟨_,ois b,H.s,I⟩
    intro A b
    refine s_3 (Zp (Zp (Yv ?_)))
    obtain rfl:=z _ (ois b)
    refine Zi ?_
    exact ⟨H.s,I⟩
   rintro a w ⟨H,I⟩
   refine Zw (s_1 (Zd H R λa H=>Zd H R λa H=>?_))
   obtain ⟨U,k,j⟩:=bvx j
   refine ZC H R R u_4 ty5 k.1 λa H=>Zk (seg:=[vB f]) (cs':=enc (i.1.setIfInBounds (i.2).toNat f)) H I Za R R R ty5 R (ZS (v:=i.1) (x:=f) k.1) (t_1 (f : UInt8)) (ZF (v:=i.1) (x:=f) k.1) λw a I H=>Zf (Yn (Zw (s_1 (Zd H R λa H=>Zm H R R R λa H=>Zc H R λa H=>Zf (Zi ?_)))))
   exact ⟨_,ois j,H.s,I⟩
  intro u e
  refine s_3 (Zp (Zp (Yv ?_)))
  obtain rfl:=t _ (ois e)
  refine Zi ?_
  exact ⟨H.s,I⟩
 rintro a w ⟨H,I⟩
 refine Zw (Zb (Zu H R Wg R I.ra0 (u_1 _) λa H=>?_))
 have I:=I.pl1
 refine s_w N H I Za R R R Wg λw a I H=>Ze ?_
 obtain rfl:=o_1 G
 have E : Z8 prog _ _ (.cell 4 56) _:=ZH H R Wg R I.ra0 (u_1 _) R
 exact u_2 (ZT H R E ⟨_,R,R,I.kept⟩)
def Vf (e : V256) (f : V256) (b : V256 × Int) : Option (Fl (V256 × Int) V256) :=
 if decide (b.2 < 256) then ((ZP e b.2).bind λc=>(ZP f (bI c)).bind λd=>(ZP b.1 b.2).bind λh=>some (Fl.nx ((b.1.setIfInBounds (b.2).toNat d),wr (b.2 + 1)))) else (some (Fl.ex b.1))
def VE (b : V256) (c : V256) : Option (V256) :=
 (ZK (Vf b c) ((Vector.replicate 256 (0 : UInt8)),0)).bind λd=>some d
theorem zw (i : World) (o : V256) (q : V256) (r : V256) (hF : VE o q = some r) :
  Calls prog 261 [Value.agg (enc o).toArray,Value.agg (enc q).toArray].toArray i (Rt i (Value.agg (enc r).toArray)):=by
 refine ce func261 ?_
 intro a H
 have I:=M.start i
 unfold VE at hF
 refine Zb (ZY (cs:=enc o) H I Za ld R R λz w a I H=>ZY (cs:=enc q) H I Za ld R R λA w a I H=>Zx H I Wg λt w a I H=>Ze (Zb (Xi (parts:=[]) (vs:=[]) (cs:=enc xe) H Za ld R R Wg R ty5 YK λa H=>Zx H I Wg λu w a I H=>s_w xe H I Za R R R Wg λw a I H=>Ze (s_2 (Zb (Zc H R λa H=>Ze ?_))))))
 obtain ⟨B,j,k⟩:=p_1 hF
 refine ZX (λa w=>Env 20 a [(4,ptr t 0),(5,ptr u 0)] ∧ M (Old i) i w [raw u (enc B),raw t xB]) ?_ ?_
 ·refine p_2 ?_
  refine ZN (λ(c : V256 × Int) a w=>Env 20 a [(2,ptr z 0),(3,ptr A 0),(4,ptr t 0),(5,ptr u 0),(6,vI c.2)] ∧ M (Old i) i w [raw u (enc c.1),raw t xB,raw A (enc q),raw z (enc o)]) j ⟨H.s,I⟩ ?_
  rintro c a w ⟨H,I⟩ C b l
  unfold Vf at b
  refine s_2 (Zb (Zd H R λa H=>Zm H R R R λa H=>Ze ?_))
  refine c_if H R b ?_ ?_
  ·intro m b
   refine t_2 (Zw (s_2 (p_2 (s_1 (Zd H R λa H=>Zd H R λa H=>?_)))))
   obtain ⟨y,f,b⟩:=bvx b
   refine ZC H R R u_4 ty5 f.1 λa H=>ZO (v:=(vB y)) H R ty5 R (At.vec I.ra3 f.2) λa H=>?_
   obtain ⟨d,h,b⟩:=bvx b
   refine ZC H R R u_4 ty5 h.1 λa H=>ZO (v:=(vB d)) H R ty5 R (At.vec I.ra2 h.2) λa H=>?_
   obtain ⟨E,e,b⟩:=bvx b
   refine ZC H R R u_4 ty5 e.1 λa H=>Zk (seg:=[vB d]) (cs':=enc (c.1.setIfInBounds (c.2).toNat d)) H I Za R R R ty5 R (ZS (v:=c.1) (x:=d) e.1) (t_1 (d : UInt8)) (ZF (v:=c.1) (x:=d) e.1) λw a I H=>Zf (Yn (Zw (s_1 (Zd H R λa H=>Zm H R R R λa H=>Zc H R λa H=>Zf (Zi ?_)))))
   exact ⟨_,ois b,H.s,I⟩
  intro m b
  refine s_3 (Zp (Zp (Yv ?_)))
  obtain rfl:=l _ (ois b)
  refine Zi ?_
  have I:=I.pl1.pl1.f_2
  exact ⟨H.s,I⟩
 rintro a w ⟨H,I⟩
 refine Zw (Zb (Zu H R Wg R I.ra0 (u_1 _) λa H=>?_))
 have I:=I.pl1
 refine s_w B H I Za R R R Wg λw a I H=>Ze ?_
 obtain rfl:=o_1 k
 have n : Z8 prog _ _ (.cell 4 56) _:=ZH H R Wg R I.ra0 (u_1 _) R
 exact u_2 (ZT H R n ⟨_,R,R,I.kept⟩)
def KJ (f : Int) (b : UInt8 × Int × UInt8) : Option (Fl (UInt8 × Int × UInt8) UInt8) :=
 if decide (b.2.1 > 0) then (((if (Int.tmod b.2.1 2) == 1 then ((YO f b.2.2 b.1).bind λc=>some c) else (some b.2.2) : Option (UInt8)).bind λd=>(YO f b.1 b.1).bind λe=>some (e,d) : Option (UInt8 × UInt8)).bind λh=>some (Fl.nx (h.1,wr (Int.tdiv b.2.1 2),h.2))) else (some (Fl.ex b.2.2))
def U5 (b : Int) (c : UInt8) (d : Int) : Option (UInt8) :=
 (ZK (KJ b) (c,d,1)).bind λe=>some e
theorem qs (d : World) (h : Int) (z : UInt8) (A : Int) (r : UInt8) (hF : U5 h z A = some r) :
  Calls prog 313 [vI h,vB z,vI A].toArray d (Rt d (vB r)):=by
 refine ce func313 ?_
 intro a H
 have I:=M.start d
 unfold U5 at hF
 refine Zb (Zc H R λa H=>Ze (Zb (Zc H R λa H=>Ze ?_)))
 obtain ⟨C,l,m⟩:=p_1 hF
 refine ZG (λa w=>Env 24 a [(7,vB C)] ∧ M (Old d) d w []) ?_ ?_
 ·refine p_2 ?_
  refine ZN (λ(e : UInt8 × Int × UInt8) a w=>Env 24 a [(0,vI h),(1,vB e.1),(2,vI e.2.1),(7,vB e.2.2)] ∧ M (Old d) d w []) l ⟨H.s,I⟩ ?_
  rintro e a w ⟨H,I⟩ E c n
  unfold KJ at c
  refine s_2 (Zb (Zd H R λa H=>Zm H R R R λa H=>Ze ?_))
  refine c_if H R c ?_ ?_
  ·intro o c
   refine t_2 (Zw ?_)
   obtain ⟨B,i,j⟩:=p_1 c
   refine ZG (λa w=>Env 24 a [(0,vI h),(1,vB B.1),(2,vI e.2.1),(7,vB B.2)] ∧ M (Old d) d w []) ?_ ?_
   ·refine p_2 ?_
    obtain ⟨q,b,f⟩:=p_1 i
    refine ZG (λa w=>Env 24 a [(0,vI h),(1,vB e.1),(2,vI e.2.1),(7,vB q)] ∧ M (Old d) d w []) ?_ ?_
    ·refine Zb (Zd H R λa H=>Zm H R R (J2 _ _ dd_) λa H=>Zm H R R R λa H=>Ze ?_)
     refine c_if H R b ?_ ?_
     ·intro k b
      refine s_1 (Zd H R λa H=>Zd H R λa H=>Zd H R λa H=>?_)
      obtain ⟨t,u,b⟩:=p_1 b
      refine c_k H I R ya (X9 _ h e.2.2 e.1 t u) λw a I H=>?_
      refine Zc H R λa H=>Zf ?_
      obtain rfl:=o_1 b
      refine Zi ?_
      exact ⟨H.s,I⟩
     intro k b
     refine t_2 ?_
     obtain rfl:=o_1 b
     refine Zi ?_
     exact ⟨H.s,I⟩
    rintro a w ⟨H,I⟩
    refine s_1 (Zd H R λa H=>Zd H R λa H=>Zd H R λa H=>?_)
    obtain ⟨x,y,f⟩:=p_1 f
    refine c_k H I R ya (X9 _ h e.1 e.1 x y) λw a I H=>?_
    refine Zc H R λa H=>Zf (Yn ?_)
    obtain rfl:=o_1 f
    refine Zi ?_
    exact ⟨H.s,I⟩
   rintro a w ⟨H,I⟩
   refine s_1 (Zd H R λa H=>Zm H R R (Zc4 _ _ dd_) λa H=>Zc H R λa H=>Zf (Zi ?_))
   exact ⟨_,ois j,H.s,I⟩
  intro o c
  refine s_3 (Zp (Zp (Yv ?_)))
  obtain rfl:=n _ (ois c)
  refine Zi ?_
  exact ⟨H.s,I⟩
 rintro a w ⟨H,I⟩
 refine Zb (Zd H R λa H=>Zc H R λa H=>Ze ?_)
 obtain rfl:=o_1 m
 exact u_2 (kr1 H R R I.kept)
def Un (b : Int) (c : UInt8) : Option (UInt8) :=
 (U5 b c 254).bind λd=>some d
theorem zZ (b : World) (c : Int) (d : UInt8) (r : UInt8) (hF : Un c d = some r) :
  Calls prog 264 [vI c,vB d].toArray b (Rt b (vB r)):=by
 refine ce func264 ?_
 intro a H
 have I:=M.start b
 unfold Un at hF
 refine Zb (Zc H R λa H=>Ze (Zb (Zd H R λa H=>Zd H R λa H=>?_)))
 obtain ⟨e,f,hF⟩:=p_1 hF
 refine c_k H I R (cbm func313) (qs _ c d 254 e f) λw a I H=>?_
 refine Zc H R λa H=>Ze ?_
 obtain rfl:=o_1 hF
 exact u_2 (kr1 H R R I.kept)
def KC (c : V44 × Int) (b : V44 × Int) : Option (Fl (V44 × Int) V44) :=
 if decide (b.2 < 4) then ((Un 285 (Zz (BY c.2 (wr (4 + b.2))))).bind λe=>(ZP b.1 c.2).bind λd=>(ZP d b.2).bind λf=>some (Fl.nx ((b.1.setIfInBounds (c.2).toNat (d.setIfInBounds (b.2).toNat e)),wr (b.2 + 1)))) else (some (Fl.ex b.1))
def KH (b : V44 × Int) : Option (Fl (V44 × Int) V44) :=
 if decide (b.2 < 4) then ((ZK (KC b) (b.1,0)).bind λc=>some (Fl.nx (c,wr (b.2 + 1)))) else (some (Fl.ex b.1))
def KG (b : V16 × Int) : Option (Fl (V16 × Int) V16) :=
 if decide (b.2 < 16) then ((ZP b.1 b.2).bind λc=>some (Fl.nx ((b.1.setIfInBounds (b.2).toNat (Zz (Int.tmod (wr ((wr (13 * b.2)) + 4)) 16))),wr (b.2 + 1)))) else (some (Fl.ex b.1))
def QA (e : Int) : Option (GCipher) :=
 (Wx 285 254).bind λf=>(Xy ([0,1,4] : List Int) 90).bind λh=>(VE f h).bind λb=>(ZK (KH) ((Vector.replicate 4 (Vector.replicate 4 (0 : UInt8))),0)).bind λc=>(ZK (KG) ((Vector.replicate 16 (0 : UInt8)),0)).bind λd=>some (⟨285,b,c,d,e⟩ : GCipher)
theorem qk (q : World) (f : Int) (r : GCipher) (hF : QA f = some r) :
  Calls prog 192 [vI f].toArray q (Rt q (Value.agg (enc r).toArray)):=by
 refine ce func192 ?_
 intro a H
 have I:=M.start q
 unfold QA at hF
 refine Zb (Zx H I Wk λA w a I H=>Ze (Zb (Zd H R λa H=>YQ (parts:=[(0,.const (vI 285)),(4,.tmp 7)]) (vs:=[(0,vI 285),(4,vI f)]) (cs:=cat [xw,enc xe,enc xc,enc xb,[vI f]]) H Za ld R R Wk pl62 (Yk (pre:=[]) (seg:=[vI 0]) (seg':=xw) (post:=[enc xe,enc xc,enc xb,[vI 0]]) R cl0 R R R (Yk (pre:=[xw,enc xe,enc xc,enc xb]) (seg:=[vI 0]) (seg':=[vI f]) (post:=[]) R ck R R R XL)) λa H=>Zx H I Wk λB w a I H=>Zk (seg:=cat [xw,enc xe,enc xc,enc xb,[vI f]]) (cs':=cat [xw,enc xe,enc xc,enc xb,[vI f]]) H I Za R R R Wk cq (q_1 cq cq) (Z0 (cc1 (t_1 (285 : Int)) (cc1 (t_1 _) (cc1 (t_1 _) (cc1 (t_1 _) (cc1 (t_1 (f : Int)) cc0)))))) (q_2 cq cq) λw a I H=>Ze (Zb ?_))))
 obtain ⟨r5,e6,hF⟩:=p_1 hF
 refine c_k H I R Zpx (Ho _ 285 254 r5 e6) λw a I H=>?_
 refine ZR (xs:=[.const (vI 0),.const (vI 1),.const (vI 4)]) (l:=([0,1,4] : List Int)) (vs:=[vI 0,vI 1,vI 4]) H I Za ld R R s_4 ty2 R dd_ R λu7 w a I H=>?_
 obtain ⟨r9,ab,hF⟩:=p_1 hF
 refine c_k H I R Zp4 (KS _ ([0,1,4] : List Int) u7 (I.sl0) 90 r9 ab) λw a I H=>?_
 obtain ⟨b,ac,hF⟩:=p_1 hF
 refine c_k H I R (cbm func261) (zw _ r5 r9 b ac) λw a I H=>?_
 refine Zr H R (HV) λa H=>?_
 have I:=I.pl1
 refine Zk (seg:=enc b) H I Za R R R Wg (u_1 _) (Wl (pre:=[xw]) ck flq) (t_1 _) (YL (pre:=[xw]) ck flq) λw a I H=>Ze (s_2 (Zb (Zc H R λa H=>Ze ?_)))
 obtain ⟨d,F,G⟩:=p_1 hF
 refine ZX (λa w=>Env 46 a [(2,ptr A 0),(3,ptr B 0)] ∧ M (Old q) q w [raw B (cat [xw,enc b,enc d,enc xb,[vI f]]),raw A xh]) ?_ ?_
 ·refine p_2 ?_
  have I:=I.pl2.pl1.f_2
  refine ZN (λ(k : V44 × Int) a w=>Env 46 a [(2,ptr A 0),(3,ptr B 0),(4,vI k.2)] ∧ M (Old q) q w [raw B (cat [xw,enc b,enc k.1,enc xb,[vI f]]),raw A xh]) F ⟨H.s,I⟩ ?_
  rintro k a w ⟨H,I⟩ aj m K
  unfold KH at m
  refine s_2 (Zb (Zd H R λa H=>Zm H R R R λa H=>Ze ?_))
  refine c_if H R m ?_ ?_
  ·intro L m
   refine t_2 (Zw (s_2 (p_2 (Zb (Zc H R λa H=>Ze ?_)))))
   obtain ⟨ad,N,O⟩:=p_1 m
   refine ZX (λa w=>Env 46 a [(2,ptr A 0),(3,ptr B 0),(4,vI k.2)] ∧ M (Old q) q w [raw B (cat [xw,enc b,enc ad,enc xb,[vI f]]),raw A xh]) ?_ ?_
   ·refine p_2 ?_
    refine ZN (λ(h : V44 × Int) a w=>Env 46 a [(2,ptr A 0),(3,ptr B 0),(4,vI k.2),(5,vI h.2)] ∧ M (Old q) q w [raw B (cat [xw,enc b,enc h.1,enc xb,[vI f]]),raw A xh]) N ⟨H.s,I⟩ ?_
    rintro h a w ⟨H,I⟩ ak c T
    unfold KC at c
    refine s_2 (Zb (Zd H R λa H=>Zm H R R R λa H=>Ze ?_))
    refine c_if H R c ?_ ?_
    ·intro U c
     refine t_2 (Zw (s_2 (p_2 ?_)))
     obtain ⟨n,ae,c⟩:=p_1 c
     obtain ⟨C,t,c⟩:=bvx c
     obtain ⟨al,o,c⟩:=bvx c
     refine Z7 [22,23,24,25,26,27,28,29,30,31,32] YJ R R dd_ R H I (q_m (λ_=>R) (q_m (λ_=>R) (q_m (λ_=>R) (q_m (λ_=>R) (qsP (v:=(vI (wr (4 + h.2)))) (λz=>Ye z.E Za ld R R R (kr0 R)) (qsP (v:=(vI (BY k.2 (wr (4 + h.2))))) (λz=>Ye z.E Za ld R R R (kr0 R)) (qsP (λz=>Xq z.E Za ld R o_6 t_3 (kr0 R)) (qsP (λz=>ZW z.E Za ld R (cbm func264) (zZ _ 285 (Zz (BY k.2 (wr (4 + h.2)))) n ae) (kc R)) (qsP (λz=>Zo z.E Za ld R (Hm) (kr0 R)) (qsP (λz=>ZI z.E Za ld R R p_3 Xo t.1 (kr0 R)) (qsP (λz=>ZI z.E Za ld R R p_4 ty5 o.1 (kr0 R)) qs0))))))))))) ?_
     ·intro a w u H I
      refine Zk (seg:=[vB n]) (cs':=cat [xw,enc b,enc (h.1.setIfInBounds (k.2).toNat (C.setIfInBounds (h.2).toNat n)),enc xb,[vI f]]) H I Za R R R ty5 R (QE (o':=(k.2).toNat * 4 + (0 + (h.2).toNat * 1)) (pre:=[xw,enc b]) (seg:=enc h.1) (post:=[enc xb,[vI f]]) ck (WY (o':=0 + (h.2).toNat * 1) t (ZS (v:=C) (x:=n) o.1) of_) of_) (t_1 (n : UInt8)) (Vh (o':=(k.2).toNat * 4 + (0 + (h.2).toNat * 1)) (pre:=[xw,enc b]) (seg:=enc h.1) (post:=[enc xb,[vI f]]) ck (WY (o':=0 + (h.2).toNat * 1) t (ZS (v:=C) (x:=n) o.1) of_) (X5 (o':=0 + (h.2).toNat * 1) t (ZS (v:=C) (x:=n) o.1) (ZF (v:=C) (x:=n) o.1) of_) of_) λw a I H=>Zf (Yn (Zw (s_1 (Zd H R λa H=>Zm H R R R λa H=>Zc H R λa H=>Zf (Zi ?_)))))
      exact ⟨_,ois c,H.s,I⟩
    intro U c
    refine s_3 (Zp (Zp (Yv ?_)))
    obtain rfl:=T _ (ois c)
    refine Zi ?_
    exact ⟨H.s,I⟩
   rintro a w ⟨H,I⟩
   refine Yn (Zw (s_1 (Zd H R λa H=>Zm H R R R λa H=>Zc H R λa H=>Zf (Zi ?_))))
   exact ⟨_,ois O,H.s,I⟩
  intro L m
  refine s_3 (Zp (Zp (Yv ?_)))
  obtain rfl:=K _ (ois m)
  refine Zi ?_
  exact ⟨H.s,I⟩
 rintro a w ⟨H,I⟩
 refine Zw (s_2 (Zb (Zc H R λa H=>Ze ?_)))
 obtain ⟨i,W,X⟩:=p_1 G
 refine ZX (λa w=>Env 46 a [(2,ptr A 0),(3,ptr B 0)] ∧ M (Old q) q w [raw B (cat [xw,enc b,enc d,enc i,[vI f]]),raw A xh]) ?_ ?_
 ·refine p_2 ?_
  refine ZN (λ(e : V16 × Int) a w=>Env 46 a [(2,ptr A 0),(3,ptr B 0),(6,vI e.2)] ∧ M (Old q) q w [raw B (cat [xw,enc b,enc d,enc e.1,[vI f]]),raw A xh]) W ⟨H.s,I⟩ ?_
  rintro e a w ⟨H,I⟩ am j Y
  unfold KG at j
  refine s_2 (Zb (Zd H R λa H=>Zm H R R R λa H=>Ze ?_))
  refine c_if H R j ?_ ?_
  ·intro Z j
   refine t_2 (Zw (s_2 (p_2 (s_1 (Zd H R λa H=>Zd H R λa H=>Zm H R R R λa H=>Zm H R R R λa H=>Zm H R R (J2 _ _ dd_) λa H=>Xq H Za ld R o_6 t_3 λa H=>Zr H R (JC) λa H=>?_)))))
   obtain ⟨an,y,j⟩:=bvx j
   refine ZC H R R u_5 ty5 y.1 λa H=>Zk (seg:=[vB (Zz (Int.tmod (wr ((wr (13 * e.2)) + 4)) 16))]) (cs':=cat [xw,enc b,enc d,enc (e.1.setIfInBounds (e.2).toNat (Zz (Int.tmod (wr ((wr (13 * e.2)) + 4)) 16))),[vI f]]) H I Za R R R ty5 R (QE (o':=0 + (e.2).toNat * 1) (pre:=[xw,enc b,enc d]) (seg:=enc e.1) (post:=[[vI f]]) ck (ZS (v:=e.1) (x:=Zz (Int.tmod (wr ((wr (13 * e.2)) + 4)) 16)) y.1) of_) (t_1 (Zz (Int.tmod (wr ((wr (13 * e.2)) + 4)) 16) : UInt8)) (Vh (o':=0 + (e.2).toNat * 1) (pre:=[xw,enc b,enc d]) (seg:=enc e.1) (post:=[[vI f]]) ck (ZS (v:=e.1) (x:=Zz (Int.tmod (wr ((wr (13 * e.2)) + 4)) 16)) y.1) (ZF (v:=e.1) (x:=Zz (Int.tmod (wr ((wr (13 * e.2)) + 4)) 16)) y.1) of_) λw a I H=>Zf (Yn (Zw (s_1 (Zd H R λa H=>Zm H R R R λa H=>Zc H R λa H=>Zf (Zi ?_)))))
   exact ⟨_,ois j,H.s,I⟩
  intro Z j
  refine s_3 (Zp (Zp (Yv ?_)))
  obtain rfl:=Y _ (ois j)
  refine Zi ?_
  exact ⟨H.s,I⟩
 rintro a w ⟨H,I⟩
 refine Zw (Zb (Zu H R Wk R I.ra0 cq λa H=>?_))
 have I:=I.pl1
 refine Zk (seg:=cat [[vI ((⟨285,b,d,i,f⟩ : GCipher).Field)],enc ((⟨285,b,d,i,f⟩ : GCipher).Box),enc ((⟨285,b,d,i,f⟩ : GCipher).Mix),enc ((⟨285,b,d,i,f⟩ : GCipher).Places),[vI ((⟨285,b,d,i,f⟩ : GCipher).Rounds)]]) (cs':=cat [[vI ((⟨285,b,d,i,f⟩ : GCipher).Field)],enc ((⟨285,b,d,i,f⟩ : GCipher).Box),enc ((⟨285,b,d,i,f⟩ : GCipher).Mix),enc ((⟨285,b,d,i,f⟩ : GCipher).Places),[vI ((⟨285,b,d,i,f⟩ : GCipher).Rounds)]]) H I Za R R R Wk cq (q_1 cq cq) (Z0 (cc1 (t_1 ((⟨285,b,d,i,f⟩ : GCipher).Field : Int)) (cc1 (t_1 _) (cc1 (t_1 _) (cc1 (t_1 _) (cc1 (t_1 ((⟨285,b,d,i,f⟩ : GCipher).Rounds : Int)) cc0)))))) (q_2 cq cq) λw a I H=>Ze ?_
 obtain rfl:=o_1 X
 have aa : Z8 prog _ _ (.cell 2 62) _:=ZH H R Wk R I.ra0 cq R
 exact u_2 (ZT H R aa ⟨_,R,R,I.kept⟩)
def KA (b : Int) (c : Int) (d : Int) : Option (Bool) :=
 (if decide (b ≥ c) then (some (decide (b ≤ d))) else (some false) : Option (Bool)).bind λe=>some e
theorem y7 (d : World) (e : Int) (f : Int) (i : Int) (r : Bool) (hF : KA e f i = some r) :
  Calls prog 241 [vI e,vI f,vI i].toArray d (Rt d (vT r)):=by
 refine ce func241 ?_
 intro a H
 have I:=M.start d
 unfold KA at hF
 refine Zb (Zc H R λa H=>Ze ?_)
 obtain ⟨j,c,h⟩:=p_1 hF
 refine ZG (λa w=>Env 15 a [(6,vT j)] ∧ M (Old d) d w []) ?_ ?_
 ·refine s_1 (Zd H R λa H=>Zd H R λa H=>Zm H R R R λa H=>Zd H R λa H=>?_)
  refine Yq (decide (e ≥ f)) (λb=>?_) (λb=>?_)
  ·have c:=Zt c b
   refine Zl H (Zh H R (lkb R b)) dd_ R λa H=>Zl H (Zh H R (lkb R b)) dd_ R λa H=>Ye H (Zh H R (lkb R b)) dd_ R R R λa H=>Z2 H (lkb R b) R λa H=>Zc H R λa H=>Zf ?_
   obtain rfl:=o_1 c
   refine Zi ?_
   exact ⟨H.s,I⟩
  have c:=Zs c b
  refine k_s H b R R R λa H=>k_s H b R R R λa H=>k_s H b R R R λa H=>ZZ H (lkb R b) R λa H=>Zc H R λa H=>Zf ?_
  obtain rfl:=o_1 c
  refine Zi ?_
  exact ⟨H.s,I⟩
 rintro a w ⟨H,I⟩
 obtain rfl:=o_1 h
 exact u_2 (kr1 H R R I.kept)
def Wm (b : Int × Int) : Option (Fl (Int × Int) Int) :=
 if decide (b.1 > 0) then (some (Fl.nx (wr (Int.tdiv b.1 2),wr (b.2 + 1)))) else (some (Fl.ex b.2))
def Vx (b : Int) : Option (Int) :=
 (ZK (Wm) (b,0)).bind λc=>some c
theorem JX (c : World) (j : Int) (r : Int) (hF : Vx j = some r) :
  Calls prog 333 [vI j].toArray c (Rt c (vI r)):=by
 refine ce func333 ?_
 intro a H
 have I:=M.start c
 unfold Vx at hF
 refine Zb (Zc H R λa H=>Ze (Zb (Zc H R λa H=>Ze ?_)))
 obtain ⟨k,d,e⟩:=p_1 hF
 refine ZG (λa w=>Env 11 a [(3,vI k)] ∧ M (Old c) c w []) ?_ ?_
 ·refine p_2 ?_
  refine ZN (λ(f : Int × Int) a w=>Env 11 a [(0,vI f.1),(3,vI f.2)] ∧ M (Old c) c w []) d ⟨H.s,I⟩ ?_
  rintro f a w ⟨H,I⟩ l b h
  unfold Wm at b
  refine s_2 (Zb (Zd H R λa H=>Zm H R R R λa H=>Ze ?_))
  refine c_if H R b ?_ ?_
  ·intro i b
   refine t_2 (Zw (s_2 (p_2 (s_1 (Zd H R λa H=>Zm H R R R λa H=>Zc H R λa H=>Zf (Yn (Zw (s_1 (Zd H R λa H=>Zm H R R (Zc4 _ _ dd_) λa H=>Zc H R λa H=>Zf (Zi ?_))))))))))
   exact ⟨_,ois b,H.s,I⟩
  intro i b
  refine s_3 (Zp (Zp (Yv ?_)))
  obtain rfl:=h _ (ois b)
  refine Zi ?_
  exact ⟨H.s,I⟩
 rintro a w ⟨H,I⟩
 refine Zb (Zd H R λa H=>Zc H R λa H=>Ze ?_)
 obtain rfl:=o_1 e
 exact u_2 (kr1 H R R I.kept)
def Tc (e : Int) (c : Int) (b : Int × Int) : Option (Fl (Int × Int) Int) :=
 if decide (b.2 ≥ c) then ((XM (IntKind.u64.wrap (wr (b.2 - c)))).bind λ_=>(Vx (BY b.1 (BJ e (IntKind.u64.wrap (wr (b.2 - c)))))).bind λd=>some (Fl.nx (BY b.1 (BJ e (IntKind.u64.wrap (wr (b.2 - c)))),d))) else (some (Fl.ex b.1))
def Kl (b : Int) (c : Int) : Option (Int) :=
 (Vx c).bind λd=>(Vx b).bind λe=>(ZK (Tc c d) (b,e)).bind λf=>some f
theorem Zbe (c : World) (j : Int) (e : Int) (r : Int) (hF : Kl j e = some r) :
  Calls prog 320 [vI j,vI e].toArray c (Rt c (vI r)):=by
 refine ce func320 ?_
 intro a H
 have I:=M.start c
 unfold Kl at hF
 refine Zb (Zc H R λa H=>Ze (Zb (Zd H R λa H=>?_)))
 obtain ⟨k,q,hF⟩:=p_1 hF
 refine c_k H I R Zpq (JX _ e k q) λw a I H=>?_
 refine Zc H R λa H=>Ze (s_2 (Zb (Zd H R λa H=>?_)))
 obtain ⟨t,u,hF⟩:=p_1 hF
 refine c_k H I R Zpq (JX _ j t u) λw a I H=>?_
 refine Zc H R λa H=>Ze ?_
 obtain ⟨x,l,m⟩:=p_1 hF
 refine ZX (λa w=>Env 25 a [(0,vI x)] ∧ M (Old c) c w []) ?_ ?_
 ·refine p_2 ?_
  refine ZN (λ(f : Int × Int) a w=>Env 25 a [(0,vI f.1),(1,vI e),(5,vI k),(6,vI f.2)] ∧ M (Old c) c w []) l ⟨H.s,I⟩ ?_
  rintro f a w ⟨H,I⟩ y b h
  unfold Tc at b
  refine s_2 (Zb (Zd H R λa H=>Zd H R λa H=>Zm H R R R λa H=>Ze ?_))
  refine c_if H R b ?_ ?_
  ·intro i b
   refine t_2 (Zw (s_2 (p_2 (s_1 (Zd H R λa H=>Zd H R λa H=>Zd H R λa H=>Zd H R λa H=>Zm H R R R λa H=>BD H Za ld R t_4 u_6 λa H=>?_)))))
   obtain ⟨_,d,b⟩:=p_1 b
   have d:=VG d
   refine yd H Za ld R R (kK _ _ d) λa H=>Zm H R R R λa H=>Zc H R λa H=>Zf (Yn (Zw (s_1 (Zd H R λa H=>?_))))
   obtain ⟨n,o,b⟩:=p_1 b
   refine c_k H I R Zpq (JX _ (BY f.1 (BJ e (IntKind.u64.wrap (wr (f.2 - k))))) n o) λw a I H=>?_
   refine Zc H R λa H=>Zf (Zi ?_)
   exact ⟨_,ois b,H.s,I⟩
  intro i b
  refine s_3 (Zp (Zp (Yv ?_)))
  obtain rfl:=h _ (ois b)
  refine Zi ?_
  exact ⟨H.s,I⟩
 rintro a w ⟨H,I⟩
 refine Zw (Zb (Zd H R λa H=>Zc H R λa H=>Ze ?_))
 obtain rfl:=o_1 m
 exact u_2 (kr1 H R R I.kept)
def UJ (d : Int) (b : Int) : Option (Fl Int (Fl Unit Bool)) :=
 if decide (b < 32) then ((Kl d b).bind λc=>if c == 0 then (some (Fl.ex (Fl.ex false))) else (some (Fl.nx (wr (b + 1))))) else (some (Fl.ex (Fl.nx ())))
def Td (b : Int) : Option (Bool) :=
 (KA b 256 511).bind λc=>if !c then (some false) else ((ZK (UJ b) 2).bind λd=>d.el (λe=>some true) (λr=>some r))
theorem AA (e : World) (f : Int) (r : Bool) (hF : Td f = some r) :
  Calls prog 276 [vI f].toArray e (Rt e (vT r)):=by
 refine ce func276 ?_
 intro a H
 have I:=M.start e
 unfold Td at hF
 refine Zb (Zc H R λa H=>Ze (s_2 (Zb (Zd H R λa H=>?_))))
 obtain ⟨q,t,hF⟩:=p_1 hF
 refine c_k H I R (cbm func241) (y7 _ f 256 511 q t) λw a I H=>?_
 refine Qe H R λa H=>Ze ?_
 refine c_if H R hF ?_ ?_
 ·intro j hF
  refine Zb (Zc H R λa H=>Ze ?_)
  obtain rfl:=o_1 hF
  exact u_2 (ZA (kr1 H R R I.kept))
 intro j hF
 refine t_2 (Zw (s_2 (Zb (Zc H R λa H=>Ze ?_))))
 obtain ⟨u,k,c⟩:=p_1 hF
 refine ZX (λa w=>∃ o : Unit,u = Fl.nx o ∧ Env 15 a [] ∧ M (Old e) e w []) ?_ ?_
 ·refine p_2 ?_
  refine ZN (λ(l : Int) a w=>Env 15 a [(0,vI f),(3,vI l)] ∧ M (Old e) e w []) k ⟨H.s,I⟩ ?_
  rintro l a w ⟨H,I⟩ x b d
  unfold UJ at b
  refine s_2 (Zb (Zd H R λa H=>Zm H R R R λa H=>Ze ?_))
  refine c_if H R b ?_ ?_
  ·intro h b
   refine t_2 (Zw (s_2 (p_2 (Zb (Zd H R λa H=>Zd H R λa H=>?_)))))
   obtain ⟨m,n,b⟩:=p_1 b
   refine c_k H I R (cbm func320) (Zbe _ f l m n) λw a I H=>?_
   refine Zm H R R R λa H=>Ze ?_
   refine c_if H R b ?_ ?_
   ·intro i b
    refine Zb (Zc H R λa H=>Ze ?_)
    obtain rfl:=d _ (ois b)
    obtain rfl:=o_1 c
    exact u_2 (YZ (ZA (ZA (YZ (ZA (ZA (kr1 H R R I.kept)))))))
   intro i b
   refine t_2 (Yn (Zw (s_1 (Zd H R λa H=>Zm H R R R λa H=>Zc H R λa H=>Zf (Zi ?_)))))
   exact ⟨_,ois b,H.s,I⟩
  intro h b
  refine s_3 (Zp (Zp (Yv ?_)))
  obtain rfl:=d _ (ois b)
  refine Zi ?_
  exact ⟨(),R,H.sub trivial,I⟩
 rintro a w ⟨o,ht,H,I⟩
 subst ht
 have c:=JM c
 refine Zw (Zb (Zc H R λa H=>Ze ?_))
 obtain rfl:=o_1 c
 exact u_2 (kr1 H R R I.kept)
def Q5 (b : List Int × Int) : Option (Fl (List Int × Int) (List Int)) :=
 if decide (b.2 < 512) then (((Td b.2).bind λc=>(if c then ((app 8 b.1 ([b.2] : List Int)).bind λf=>some (b.1 ++ ([b.2] : List Int))) else (some b.1) : Option ((List Int))).bind λd=>some d : Option ((List Int))).bind λe=>some (Fl.nx (e,wr (b.2 + 1)))) else (some (Fl.ex b.1))
def T5 : Option ((List Int)) :=
 (ZK (Q5) (([] : List Int),256)).bind λb=>some b
theorem kx (d : World)  (r : List Int) (hF : T5  = some r) :
  Calls prog 336 [].toArray d (e_r λv w'=>(∃ F : Value,v = F ∧ Fr d w' [osl NoB r F] ∧ Kept (Old d) d w')):=by
 refine ce func336 ?_
 intro a H
 have I:=M.start d
 unfold T5 at hF
 refine Zb (Zc H R λa H=>Ze (Zb (ZR (xs:=[]) (l:=([] : List Int)) (vs:=[]) H I Za ld R R s_4 ty2 R dd_ R λG w a I H=>Zc H R λa H=>Ze (s_2 (Zb (Zc H R λa H=>Ze ?_))))))
 obtain ⟨K,u,x⟩:=p_1 hF
 refine ZX (λa w=>∃ t : Value,Env 15 a [(1,t)] ∧ M (Old d) d w [osl NoB K t]) ?_ ?_
 ·refine p_2 ?_
  refine ZN (λ(i : List Int × Int) a w=>∃ j : Value,Env 15 a [(1,j),(2,vI i.2)] ∧ M (Old d) d w [osl NoB i.1 j]) u ⟨G,H.s,I⟩ ?_
  rintro i a w ⟨j,H,I⟩ L c k
  unfold Q5 at c
  refine s_2 (Zb (Zd H R λa H=>Zm H R R R λa H=>Ze ?_))
  refine c_if H R c ?_ ?_
  ·intro m c
   refine t_2 (Zw ?_)
   obtain ⟨y,e,n⟩:=p_1 c
   refine ZG (λa w=>∃ f : Value,Env 15 a [(1,f),(2,vI i.2)] ∧ M (Old d) d w [osl NoB y f]) ?_ ?_
   ·refine p_2 (Zb (Zd H R λa H=>?_))
    obtain ⟨z,A,e⟩:=p_1 e
    refine c_k H I R (cbm func276) (AA _ i.2 z A) λw a I H=>?_
    refine Ze ?_
    obtain ⟨B,b,o⟩:=p_1 e
    refine ZX (λa w=>∃ h : Value,Env 15 a [(1,h),(2,vI i.2)] ∧ M (Old d) d w [osl NoB B h]) ?_ ?_
    ·refine c_if H R b ?_ ?_
     ·intro q b
      refine s_1 (Zd H R λa H=>Zd H R λa H=>ZR (xs:=[.tmp 11]) (l:=([i.2] : List Int)) (vs:=[vI i.2]) H I Za ld R R s_4 ty2 R dd_ R λN w a I H=>?_)
      obtain ⟨O,C,b⟩:=p_1 b
      obtain ⟨E,rfl⟩:=Yc C
      have I:=I.pl1
      refine Yg H I Za ld R R (I.sl1) s_4 ty2 R dd_ E λu32 w a I H=>Zc H R λa H=>Zf ?_
      obtain rfl:=o_1 b
      refine Zi ?_
      have I:=I.f_1
      exact ⟨u32,H.s,I⟩
     intro q b
     refine t_2 ?_
     obtain rfl:=o_1 b
     refine Zi ?_
     exact ⟨j,H.s,I⟩
    rintro a w ⟨h,H,I⟩
    refine Yn ?_
    obtain rfl:=o_1 o
    refine Zi ?_
    exact ⟨h,H.s,I⟩
   rintro a w ⟨f,H,I⟩
   refine s_1 (Zd H R λa H=>Zm H R R R λa H=>Zc H R λa H=>Zf (Zi ?_))
   exact ⟨_,ois n,f,H.s,I⟩
  intro m c
  refine s_3 (Zp (Zp (Yv ?_)))
  obtain rfl:=k _ (ois c)
  refine Zi ?_
  exact ⟨j,H.s,I⟩
 rintro a w ⟨t,H,I⟩
 refine Zw (Zb (Zd H R λa H=>Zc H R λa H=>Ze ?_))
 obtain rfl:=o_1 x
 exact u_2 (ZT H R (Zy H R) ⟨_,R,t,R,I.outF (Z1 Yj),I.kept⟩)
def Wi (b : List UInt8) (k : (Int × Int)) : Option ((Int × Int) × Int) :=
 (T5).bind λe=>((ZQ b (k.1,k.2) (e.length : Int)).bind λf=>(idx e f.2).bind λh=>(ZQ b (f.1.1,f.1.2) (e.length : Int)).bind λc=>(idx e c.2).bind λi=>(X8 b (c.1.1,c.1.2) ([285,h,i] : List Int)).bind λd=>some (d.1.1,d.1.2,d.2) : Option (Int × Int × Int)).bind λj=>some ((j.1,j.2.1),j.2.2)
theorem KX (St : Nat → Prop) (W w0 : World) (L : Item) (d : Nat) (n : List UInt8) (b : Value) (o : Rep.sat St W n [b] []) (x : xr) (I : M St W w0 [raw d (cat [[b],[vI x.1],[Value.int .u64 x.2]]),L]) (r : xr × Int) (hF : Wi n x = some r) :
  Calls prog 330 [ptr d 0].toArray w0 (e_r λv w'=>(v = (vI r.2) ∧ M St W w' [raw d (cat [[b],[vI r.1.1],[Value.int .u64 r.1.2]]),L])):=by
 refine ce func330 ?_
 intro a H
 unfold Wi at hF
 refine Zb (Zc H R λa H=>Ze (Zb ?_))
 obtain ⟨N,e2,hF⟩:=p_1 hF
 refine Zn H R (cbm func336) (kx _  N e2) ?_
 rintro u3 w a ⟨_,rfl,hFr,hK⟩ H
 have I:=I.add hK hFr
 refine Zc H R λa H=>Ze ?_
 obtain ⟨O,e,T⟩:=p_1 hF
 refine ZG (λa w=>Env 22 a [(2,vI O.2.2)] ∧ M St W w [raw d (cat [[b],[vI O.1],[Value.int .u64 O.2.1]]),L]) ?_ ?_
 ·have I:=I.pl1
  obtain ⟨A,e9,e⟩:=p_1 e
  obtain ⟨q,C,e⟩:=bix e
  obtain ⟨h,U,e⟩:=p_1 e
  obtain ⟨t,G,e⟩:=bix e
  refine Y0 (its:=[osl NoB N u3,L]) (mk:=([([5,12],λbs _=>(tog (bs.getD 0 false) (raw d (cat [[b],[vI x.1],[Value.int .u64 x.2]])) (tog (bs.getD 1 false) (raw d (cat [[b],[vI A.1.1],[Value.int .u64 A.1.2]])) (raw d (cat [[b],[vI h.1.1],[Value.int .u64 h.1.2]]))))),mkO 15 (λv=>osl NoB (([285,q,t] : List Int) : List Int) v)] : Mk)) [5,6,7,8,9,10,11,12,13,14,15,16,17,18,19,20] YJ R R dd_ R H (λu=>M.qS (M.qE (M.q0 I.drew u) emO) λ_=>R) (q_m (λ_=>R) (q_m (λ_=>R) (q_m (λ_=>R) (q_m (λ_=>R) (qsP (λz=>Q7 z.E Za ld R s_4 (z.M.sl0) (kr0 R)) (qsV (v:=(vI A.2)) ?_ (qsP (λz=>XD z.E Za ld R R s_4 ty2 (z.M.sl0) C.1 (kr0 R)) (qsP (λz=>ZL (v:=(vI q)) z.E Za ld R ty2 R (Xx (z.M.sl0) C.2) (kr0 R)) (q_m (λ_=>R) (q_m (λ_=>R) (q_m (λ_=>R) (qsP (λz=>Q7 z.E Za ld R s_4 (z.M.sl0) (kr0 R)) (qsV (v:=(vI h.2)) ?_ (qsP (λz=>XD z.E Za ld R R s_4 ty2 (z.M.sl0) G.1 (kr0 R)) (qsP (λz=>ZL (v:=(vI t)) z.E Za ld R ty2 R (Xx (z.M.sl0) G.2) (kr0 R)) (q_t ?_ qs0)))))))))))))))) ?_
  ·intro a w B D z
   have H:=z.E
   have hD : D 5 = false:=z.F
   have I:=z.M.togA (pre:=[_,_]) hD
   have hNx : D 12 = false:=Kb (j:=12) (k:=2) z.c R R R hD
   have I:=M.tailP (m:=[_]) I.pl2
   refine Zn H R KT (ZU _ _ _ _ d n b o (x.1,x.2) (N.length : Int) I A e9) ?_
   rintro v w a ⟨rfl,I⟩ H
   have I:=M.tailU (m:=[_]) I
   simp only [l_c,l_n] at I
   exact ⟨_,R,H,M.qTogS (mk1:=[]) (mk2:=[_]) I R (by show tog (XY D 5 5) (raw d (cat [[b],[vI x.1],[Value.int .u64 x.2]])) (tog (XY D 5 12) (raw d (cat [[b],[vI A.1.1],[Value.int .u64 A.1.2]])) (raw d (cat [[b],[vI h.1.1],[Value.int .u64 h.1.2]]))) = _; rw [tg1 updS,tg0 (updN (i:=5) hNx dd_)])⟩
  ·intro a w B D z
   have H:=z.E
   have hD : D 12 = false:=z.F
   have I:=z.M
   have K : D 5 = true:=z.p 2 _ R R
   have I:=M.tailP (m:=[_]) (((I.togB (pre:=[_,_]) K).togA (pre:=[_,_]) hD).pl2)
   refine Zn H R KT (ZU _ _ _ _ d n b o (A.1.1,A.1.2) (N.length : Int) I h U) ?_
   rintro v w a ⟨rfl,I⟩ H
   have I:=M.tailU (m:=[_]) I
   simp only [l_c,l_n] at I
   exact ⟨_,R,H,M.qTogS (mk1:=[]) (mk2:=[_]) I R (by show tog (XY D 12 5) (raw d (cat [[b],[vI x.1],[Value.int .u64 x.2]])) (tog (XY D 12 12) (raw d (cat [[b],[vI A.1.1],[Value.int .u64 A.1.2]])) (raw d (cat [[b],[vI h.1.1],[Value.int .u64 h.1.2]]))) = _; rw [tg1 (updK K),tg1 updS])⟩
  ·intro a w B D z
   have H:=z.E
   have hD : D 15 = false:=z.F
   have I:=z.M
   exact ZR (xs:=[.const (vI 285),.tmp 12,.tmp 19]) (l:=([285,q,t] : List Int)) (vs:=[vI 285,vI q,vI t]) H I Za ld R R s_4 ty2 R dd_ R λaf w a I H=>⟨_,_,R,H,M.qFill (mk1:=[_]) (mk2:=[]) (f:=(λv=>osl NoB (([285,q,t] : List Int) : List Int) v)) I R hD,trivial⟩
  intro a w B D H I hG y
  have d5:=y 5 dd_
  have X:=y 12 dd_
  have Y:=y 15 dd_
  have I:=M.tailP (m:=[_,_]) (((((I.togB (pre:=[_,_]) d5).togB (pre:=[_,_]) X).su3 Y).pl3).pl3)
  obtain ⟨Z,aa,e⟩:=p_1 e
  refine Zn H R Zcp (UV _ _ _ _ d n b o (h.1.1,h.1.2) ([285,q,t] : List Int) (B 15) I Z aa) ?_
  rintro v w a ⟨rfl,I⟩ H
  have I:=M.tailU (m:=[_,_]) I
  simp only [l_c,l_n] at I
  refine Zc H R λa H=>Zf ?_
  obtain rfl:=o_1 e
  refine Zi ?_
  have I:=((I.pl3.pl1.pl3).drop.pl2).drop
  exact ⟨H.s,I⟩
 rintro a w ⟨H,I⟩
 obtain rfl:=o_1 T
 exact u_2 (ZT H R (Zy H R) ⟨_,R,R,I⟩)
def QD (b : V256 × Int) : Option (Fl (V256 × Int) V256) :=
 if decide (b.2 < 256) then ((ZP b.1 b.2).bind λc=>some (Fl.nx ((b.1.setIfInBounds (b.2).toNat (Zz b.2)),wr (b.2 + 1)))) else (some (Fl.ex b.1))
def TS : Option (V256) :=
 (ZK (QD) ((Vector.replicate 256 (0 : UInt8)),0)).bind λb=>some b
theorem zx (e : World)  (r : V256) (hF : TS  = some r) :
  Calls prog 337 [].toArray e (Rt e (Value.agg (enc r).toArray)):=by
 refine ce func337 ?_
 intro a H
 have I:=M.start e
 unfold TS at hF
 refine Zb (Zx H I Wg λj w a I H=>Ze (Zb (Xi (parts:=[]) (vs:=[]) (cs:=enc xe) H Za ld R R Wg R ty5 YK λa H=>Zx H I Wg λk w a I H=>s_w xe H I Za R R R Wg λw a I H=>Ze (s_2 (Zb (Zc H R λa H=>Ze ?_))))))
 obtain ⟨n,l,m⟩:=p_1 hF
 refine ZX (λa w=>Env 13 a [(0,ptr j 0),(1,ptr k 0)] ∧ M (Old e) e w [raw k (enc n),raw j xB]) ?_ ?_
 ·refine p_2 ?_
  refine ZN (λ(c : V256 × Int) a w=>Env 13 a [(0,ptr j 0),(1,ptr k 0),(2,vI c.2)] ∧ M (Old e) e w [raw k (enc c.1),raw j xB]) l ⟨H.s,I⟩ ?_
  rintro c a w ⟨H,I⟩ o b f
  unfold QD at b
  refine s_2 (Zb (Zd H R λa H=>Zm H R R R λa H=>Ze ?_))
  refine c_if H R b ?_ ?_
  ·intro h b
   refine t_2 (Zw (s_2 (p_2 (s_1 (Zd H R λa H=>Zd H R λa H=>Xq H Za ld R o_6 t_3 λa H=>?_)))))
   obtain ⟨q,d,b⟩:=bvx b
   refine ZC H R R u_4 ty5 d.1 λa H=>Zk (seg:=[vB (Zz c.2)]) (cs':=enc (c.1.setIfInBounds (c.2).toNat (Zz c.2))) H I Za R R R ty5 R (ZS (v:=c.1) (x:=Zz c.2) d.1) (t_1 (Zz c.2 : UInt8)) (ZF (v:=c.1) (x:=Zz c.2) d.1) λw a I H=>Zf (Yn (Zw (s_1 (Zd H R λa H=>Zm H R R R λa H=>Zc H R λa H=>Zf (Zi ?_)))))
   exact ⟨_,ois b,H.s,I⟩
  intro h b
  refine s_3 (Zp (Zp (Yv ?_)))
  obtain rfl:=f _ (ois b)
  refine Zi ?_
  exact ⟨H.s,I⟩
 rintro a w ⟨H,I⟩
 refine Zw (Zb (Zu H R Wg R I.ra0 (u_1 _) λa H=>?_))
 have I:=I.pl1
 refine s_w n H I Za R R R Wg λw a I H=>Ze ?_
 obtain rfl:=o_1 m
 have i : Z8 prog _ _ (.cell 0 56) _:=ZH H R Wg R I.ra0 (u_1 _) R
 exact u_2 (ZT H R i ⟨_,R,R,I.kept⟩)
def Qo (d : List UInt8) (b : V256 × Int × Int × Int) : Option (Fl (V256 × Int × Int × Int) (V256 × Int × Int)) :=
 if decide (b.2.2.2 > 0) then ((ZQ d (b.2.1,b.2.2.1) (wr (b.2.2.2 + 1))).bind λc=>(ZP b.1 b.2.2.2).bind λf=>(ZP b.1 c.2).bind λe=>(ZP b.1 b.2.2.2).bind λh=>(ZP (b.1.setIfInBounds (b.2.2.2).toNat e) c.2).bind λi=>some (Fl.nx (((b.1.setIfInBounds (b.2.2.2).toNat e).setIfInBounds (c.2).toNat f),c.1.1,c.1.2,wr (b.2.2.2 - 1)))) else (some (Fl.ex (b.1,b.2.1,b.2.2.1)))
def Tp (b : List UInt8) (d : (Int × Int)) : Option ((Int × Int) × V256) :=
 (TS).bind λe=>(ZK (Qo b) (e,d.1,d.2,255)).bind λc=>some ((c.2.1,c.2.2),c.1)
theorem ji (St : Nat → Prop) (W L : World) (z : Item) (f : Nat) (i : List UInt8) (d : Value) (o : Rep.sat St W i [d] []) (E : xr) (I : M St W L [raw f (cat [[d],[vI E.1],[Value.int .u64 E.2]]),z]) (r : xr × V256) (hF : Tp i E = some r) :
  Calls prog 338 [ptr f 0].toArray L (e_r λv w'=>(v = (Value.agg (enc r.2).toArray) ∧ M St W w' [raw f (cat [[d],[vI r.1.1],[Value.int .u64 r.1.2]]),z])):=by
 refine ce func338 ?_
 intro a H
 unfold Tp at hF
 refine Zb (Zx H I Wg λA w a I H=>Ze (Zb ?_))
 obtain ⟨N,O,hF⟩:=p_1 hF
 refine c_k H I R (cbm func337) (zx _  N O) λw a I H=>?_
 refine Zx H I Wg λB w a I H=>s_w N H I Za R R R Wg λw a I H=>Ze (s_2 (Zb (Zc H R λa H=>Ze ?_)))
 obtain ⟨C,F,G⟩:=p_1 hF
 refine ZX (λa w=>Env 28 a [(2,ptr A 0),(3,ptr B 0)] ∧ M St W w [raw B (enc C.1),raw A xB,raw f (cat [[d],[vI C.2.1],[Value.int .u64 C.2.2]]),z]) ?_ ?_
 ·refine p_2 ?_
  refine ZN (λ(c : V256 × Int × Int × Int) a w=>Env 28 a [(0,ptr f 0),(2,ptr A 0),(3,ptr B 0),(4,vI c.2.2.2)] ∧ M St W w [raw B (enc c.1),raw A xB,raw f (cat [[d],[vI c.2.1],[Value.int .u64 c.2.2.1]]),z]) F ⟨H.s,I⟩ ?_
  rintro c a w ⟨H,I⟩ T b q
  unfold Qo at b
  refine s_2 (Zb (Zd H R λa H=>Zm H R R R λa H=>Ze ?_))
  refine c_if H R b ?_ ?_
  ·intro t b
   refine t_2 (Zw (s_2 (p_2 (Zb (Zd H R λa H=>Zd H R λa H=>Zm H R R R λa H=>?_)))))
   have I:=M.tailP (m:=[_]) I.pl2
   obtain ⟨u,K,b⟩:=p_1 b
   refine Zn H R KT (ZU _ _ _ _ f i d o (c.2.1,c.2.2.1) (wr (c.2.2.2 + 1)) I u K) ?_
   rintro v w a ⟨rfl,I⟩ H
   have I:=M.tailU (m:=[_]) I
   simp only [l_c,l_n] at I
   refine Zc H R λa H=>Ze (Zb (Zd H R λa H=>?_))
   obtain ⟨h,l,b⟩:=bvx b
   refine ZC H R R u_4 ty5 l.1 λa H=>ZO (v:=(vB h)) H R ty5 R (At.vec I.ra1 l.2) λa H=>Zc H R λa H=>Ze (Zb (Zd H R λa H=>Zd H R λa H=>?_))
   obtain ⟨e,n,b⟩:=bvx b
   refine ZC H R R u_4 ty5 n.1 λa H=>ZO (v:=(vB e)) H R ty5 R (At.vec I.ra1 n.2) λa H=>?_
   obtain ⟨U,j,b⟩:=bvx b
   refine ZC H R R u_4 ty5 j.1 λa H=>?_
   have I:=I.pl1
   refine Zk (seg:=[vB e]) (cs':=enc (c.1.setIfInBounds (c.2.2.2).toNat e)) H I Za R R R ty5 R (ZS (v:=c.1) (x:=e) j.1) (t_1 (e : UInt8)) (ZF (v:=c.1) (x:=e) j.1) λw a I H=>Ze (s_1 (Zd H R λa H=>Zd H R λa H=>?_))
   obtain ⟨X,k,b⟩:=bvx b
   refine ZC H R R u_4 ty5 k.1 λa H=>Zk (seg:=[vB h]) (cs':=enc ((c.1.setIfInBounds (c.2.2.2).toNat e).setIfInBounds (u.2).toNat h)) H I Za R R R ty5 R (ZS (v:=(c.1.setIfInBounds (c.2.2.2).toNat e)) (x:=h) k.1) (t_1 (h : UInt8)) (ZF (v:=(c.1.setIfInBounds (c.2.2.2).toNat e)) (x:=h) k.1) λw a I H=>Zf (Yn (Zw (s_1 (Zd H R λa H=>Zm H R R R λa H=>Zc H R λa H=>Zf (Zi ?_)))))
   have I:=I.pl3.pl2.pl3.pl3
   exact ⟨_,ois b,H.s,I⟩
  intro t b
  refine s_3 (Zp (Zp (Yv ?_)))
  obtain rfl:=q _ (ois b)
  refine Zi ?_
  exact ⟨H.s,I⟩
 rintro a w ⟨H,I⟩
 refine Zw (Zb (Zu H R Wg R I.ra0 (u_1 _) λa H=>?_))
 have I:=I.pl1
 refine s_w C.1 H I Za R R R Wg λw a I H=>Ze ?_
 obtain rfl:=o_1 G
 have y : Z8 prog _ _ (.cell 2 56) _:=ZH H R Wg R I.ra0 (u_1 _) R
 have I:=((I.pl3.pl3.pl3).drop.pl2).drop
 exact u_2 (ZT H R y ⟨_,R,R,I⟩)
def Kz (b : List UInt8) (y : (Int × Int)) : Option ((Int × Int) × V256) :=
 (ZQ b (y.1,y.2) 6).bind λc=>if c.2 == 0 then ((Wi b (c.1.1,c.1.2)).bind λn=>(Wx n.2 254).bind λz=>(ZQ b (n.1.1,n.1.2) 256).bind λh=>(Xy ([0,1,4] : List Int) (Zz h.2)).bind λo=>(VE z o).bind λq=>some ((h.1.1,h.1.2),q)) else (if c.2 == 1 then ((Wi b (c.1.1,c.1.2)).bind λi=>(X8 b (i.1.1,i.1.2) ([1,2,7,11,13,127,254] : List Int)).bind λj=>(Wx i.2 j.2).bind λt=>some ((j.1.1,j.1.2),t)) else (if c.2 == 2 then ((ZQ b (c.1.1,c.1.2) 256).bind λk=>(Xy ([0,2,5] : List Int) (Zz k.2)).bind λu=>some ((k.1.1,k.1.2),u)) else (if c.2 == 3 then ((TS).bind λe=>(ZQ b (c.1.1,c.1.2) 256).bind λd=>(ZQ b (d.1.1,d.1.2) 256).bind λf=>(ZP e d.2).bind λx=>(ZP e f.2).bind λm=>(ZP e d.2).bind λA=>(ZP (e.setIfInBounds (d.2).toNat m) f.2).bind λB=>some ((f.1.1,f.1.2),(e.setIfInBounds (d.2).toNat m).setIfInBounds (f.2).toNat x)) else ((Tp b (c.1.1,c.1.2)).bind λl=>some ((l.1.1,l.1.2),l.2)))))
theorem Zcl (St : Nat → Prop) (W w0 : World) (r0 : Item) (e : Nat) (d : List UInt8) (c : Value) (b : Rep.sat St W d [c] []) (z : xr) (I : M St W w0 [raw e (cat [[c],[vI z.1],[Value.int .u64 z.2]]),r0]) (r : xr × V256) (hF : Kz d z = some r) :
  Calls prog 331 [ptr e 0].toArray w0 (e_r λv w'=>(v = (Value.agg (enc r.2).toArray) ∧ M St W w' [raw e (cat [[c],[vI r.1.1],[Value.int .u64 r.1.2]]),r0])):=by
 refine ce func331 ?_
 intro a H
 unfold Kz at hF
 refine Zb (Zx H I Wg λb1 w a I H=>Ze (s_2 (Zb (Zd H R λa H=>?_))))
 have I:=M.tailP (m:=[_]) I.pl1
 obtain ⟨k,e4,hF⟩:=p_1 hF
 refine Zn H R KT (ZU _ _ _ _ e d c b (z.1,z.2) 6 I k e4) ?_
 rintro v w a ⟨rfl,I⟩ H
 have I:=M.tailU (m:=[_]) I
 simp only [l_c,l_n] at I
 refine Ze (p_2 (Zb (Zm H R R R λa H=>Zc H R λa H=>Ze ?_)))
 refine c_if H R hF ?_ ?_
 ·intro ac hF
  refine Zb (Zd H R λa H=>?_)
  have I:=M.tailP (m:=[_]) I
  obtain ⟨r6,e7,hF⟩:=p_1 hF
  refine Zn H R Zn7 (KX _ _ _ _ e d c b (k.1.1,k.1.2) I r6 e7) ?_
  rintro v w a ⟨rfl,I⟩ H
  have I:=M.tailU (m:=[_]) I
  simp only [l_c,l_n] at I
  obtain ⟨r8,e9,hF⟩:=p_1 hF
  refine c_k H I R Zpx (Ho _ r6.2 254 r8 e9) λw a I H=>?_
  refine ZR (xs:=[.const (vI 0),.const (vI 1),.const (vI 4)]) (l:=([0,1,4] : List Int)) (vs:=[vI 0,vI 1,vI 4]) H I Za ld R R s_4 ty2 R dd_ R λad w a I H=>Zd H R λa H=>?_
  have I:=M.tailP (m:=[_]) I.pl1
  obtain ⟨A,ae,hF⟩:=p_1 hF
  refine Zn H R KT (ZU _ _ _ _ e d c b (r6.1.1,r6.1.2) 256 I A ae) ?_
  rintro v w a ⟨rfl,I⟩ H
  have I:=M.tailU (m:=[_]) I
  simp only [l_c,l_n] at I
  refine Xq H Za ld R t_4 t_3 λa H=>?_
  obtain ⟨B,af,hF⟩:=p_1 hF
  refine c_k H I R Zp4 (KS _ ([0,1,4] : List Int) ad (I.sl1) (Zz A.2) B af) λw a I H=>?_
  obtain ⟨C,ag,hF⟩:=p_1 hF
  refine Zn H R (cbm func261) (zw _ r8 B C ag) ?_
  rintro v w a ⟨rfl,hK⟩ H
  have I:=(I.keep hK).pl2
  refine s_w C H I Za R R R Wg λw a I H=>Ze ?_
  obtain rfl:=o_1 hF
  have E : Z8 prog _ _ (.cell 2 56) _:=ZH H R Wg R I.ra0 (u_1 _) R
  have I:=((I.pl3.pl2.pl3).drop.pl2).drop
  exact u_2 (YZ (ZA (ZT H R E ⟨_,R,R,I⟩)))
 intro ac hF
 refine Zb (Zm H R R R λa H=>Zc H R λa H=>Ze ?_)
 refine c_if H R hF ?_ ?_
 ·intro F hF
  refine Zb (Zd H R λa H=>?_)
  have I:=M.tailP (m:=[_]) I
  obtain ⟨q,ah,hF⟩:=p_1 hF
  refine Zn H R Zn7 (KX _ _ _ _ e d c b (k.1.1,k.1.2) I q ah) ?_
  rintro v w a ⟨rfl,I⟩ H
  have I:=M.tailU (m:=[_]) I
  simp only [l_c,l_n] at I
  refine Zd H R λa H=>ZR (xs:=[.const (vI 1),.const (vI 2),.const (vI 7),.const (vI 11),.const (vI 13),.const (vI 127),.const (vI 254)]) (l:=([1,2,7,11,13,127,254] : List Int)) (vs:=[vI 1,vI 2,vI 7,vI 11,vI 13,vI 127,vI 254]) H I Za ld R R s_4 ty2 R dd_ R λai w a I H=>?_
  have I:=M.tailP (m:=[_,_]) I.pl1
  obtain ⟨G,aj,hF⟩:=p_1 hF
  refine Zn H R Zcp (UV _ _ _ _ e d c b (q.1.1,q.1.2) ([1,2,7,11,13,127,254] : List Int) ai I G aj) ?_
  rintro v w a ⟨rfl,I⟩ H
  have I:=M.tailU (m:=[_,_]) I
  simp only [l_c,l_n] at I
  obtain ⟨K,ak,hF⟩:=p_1 hF
  refine Zn H R Zpx (Ho _ q.2 G.2 K ak) ?_
  rintro v w a ⟨rfl,hK⟩ H
  have I:=(I.keep hK).pl2
  refine s_w K H I Za R R R Wg λw a I H=>Ze ?_
  obtain rfl:=o_1 hF
  have L : Z8 prog _ _ (.cell 2 56) _:=ZH H R Wg R I.ra0 (u_1 _) R
  have I:=((I.pl3.pl2.pl3).drop.pl2).drop
  exact u_2 (YZ (ZA (ZT H R L ⟨_,R,R,I⟩)))
 intro F hF
 refine Zb (Zm H R R R λa H=>Zc H R λa H=>Ze ?_)
 refine c_if H R hF ?_ ?_
 ·intro N hF
  refine Zb (ZR (xs:=[.const (vI 0),.const (vI 2),.const (vI 5)]) (l:=([0,2,5] : List Int)) (vs:=[vI 0,vI 2,vI 5]) H I Za ld R R s_4 ty2 R dd_ R λal w a I H=>Zd H R λa H=>?_)
  have I:=M.tailP (m:=[_]) I.pl1
  obtain ⟨O,am,hF⟩:=p_1 hF
  refine Zn H R KT (ZU _ _ _ _ e d c b (k.1.1,k.1.2) 256 I O am) ?_
  rintro v w a ⟨rfl,I⟩ H
  have I:=M.tailU (m:=[_]) I
  simp only [l_c,l_n] at I
  refine Xq H Za ld R t_4 t_3 λa H=>?_
  obtain ⟨T,an,hF⟩:=p_1 hF
  refine Zn H R Zp4 (KS _ ([0,2,5] : List Int) al (I.sl1) (Zz O.2) T an) ?_
  rintro v w a ⟨rfl,hK⟩ H
  have I:=(I.keep hK).pl2
  refine s_w T H I Za R R R Wg λw a I H=>Ze ?_
  obtain rfl:=o_1 hF
  have U : Z8 prog _ _ (.cell 2 56) _:=ZH H R Wg R I.ra0 (u_1 _) R
  have I:=((I.pl3.pl2.pl3).drop.pl2).drop
  exact u_2 (YZ (ZA (ZT H R U ⟨_,R,R,I⟩)))
 intro N hF
 refine Zb (Zm H R R R λa H=>Zc H R λa H=>Ze ?_)
 refine c_if H R hF ?_ ?_
 ·intro X hF
  refine Zb ?_
  obtain ⟨h,ao,hF⟩:=p_1 hF
  refine c_k H I R (cbm func337) (zx _  h ao) λw a I H=>?_
  refine Zx H I Wg λa0 w a I H=>s_w h H I Za R R R Wg λw a I H=>Ze (Zb (Zd H R λa H=>?_))
  have I:=M.tailP (m:=[_]) I.pl1
  obtain ⟨i,ap,hF⟩:=p_1 hF
  refine Zn H R KT (ZU _ _ _ _ e d c b (k.1.1,k.1.2) 256 I i ap) ?_
  rintro v w a ⟨rfl,I⟩ H
  have I:=M.tailU (m:=[_]) I
  simp only [l_c,l_n] at I
  refine Zd H R λa H=>?_
  have I:=M.tailP (m:=[_]) I
  obtain ⟨y,aq,hF⟩:=p_1 hF
  refine Zn H R KT (ZU _ _ _ _ e d c b (i.1.1,i.1.2) 256 I y aq) ?_
  rintro v w a ⟨rfl,I⟩ H
  have I:=M.tailU (m:=[_]) I
  simp only [l_c,l_n] at I
  refine Zc H R λa H=>Zc H R λa H=>Ze (Zb (Zd H R λa H=>?_))
  obtain ⟨j,t,hF⟩:=bvx hF
  refine ZC H R R u_4 ty5 t.1 λa H=>ZO (v:=(vB j)) H R ty5 R (At.vec I.ra1 t.2) λa H=>Zc H R λa H=>Ze (Zb (Zd H R λa H=>Zd H R λa H=>?_))
  obtain ⟨f,u,hF⟩:=bvx hF
  refine ZC H R R u_4 ty5 u.1 λa H=>ZO (v:=(vB f)) H R ty5 R (At.vec I.ra1 u.2) λa H=>?_
  obtain ⟨a1,n,hF⟩:=bvx hF
  refine ZC H R R u_4 ty5 n.1 λa H=>?_
  have I:=I.pl1
  refine Zk (seg:=[vB f]) (cs':=enc (h.setIfInBounds (i.2).toNat f)) H I Za R R R ty5 R (ZS (v:=h) (x:=f) n.1) (t_1 (f : UInt8)) (ZF (v:=h) (x:=f) n.1) λw a I H=>Ze (Zb (Zd H R λa H=>Zd H R λa H=>?_))
  obtain ⟨a2,o,hF⟩:=bvx hF
  refine ZC H R R u_4 ty5 o.1 λa H=>Zk (seg:=[vB j]) (cs':=enc ((h.setIfInBounds (i.2).toNat f).setIfInBounds (y.2).toNat j)) H I Za R R R ty5 R (ZS (v:=(h.setIfInBounds (i.2).toNat f)) (x:=j) o.1) (t_1 (j : UInt8)) (ZF (v:=(h.setIfInBounds (i.2).toNat f)) (x:=j) o.1) λw a I H=>Ze (Zb (Zu H R Wg R I.ra0 (u_1 _) λa H=>?_))
  have I:=I.pl2
  refine s_w ((h.setIfInBounds (i.2).toNat f).setIfInBounds (y.2).toNat j) H I Za R R R Wg λw a I H=>Ze ?_
  obtain rfl:=o_1 hF
  have Y : Z8 prog _ _ (.cell 2 56) _:=ZH H R Wg R I.ra0 (u_1 _) R
  have I:=((I.pl3.pl3.pl3).drop.pl2).drop
  exact u_2 (YZ (ZA (ZT H R Y ⟨_,R,R,I⟩)))
 intro X hF
 refine t_2 (Yn (Zw (Zb (Zd H R λa H=>?_))))
 have I:=M.tailP (m:=[_]) I
 obtain ⟨Z,ar,hF⟩:=p_1 hF
 refine Zn H R (cbm func338) (ji _ _ _ _ e d c b (k.1.1,k.1.2) I Z ar) ?_
 rintro v w a ⟨rfl,I⟩ H
 have I:=M.tailU (m:=[_]) I
 simp only [l_c,l_n] at I
 have I:=I.pl1
 refine s_w Z.2 H I Za R R R Wg λw a I H=>Ze ?_
 obtain rfl:=o_1 hF
 have aa : Z8 prog _ _ (.cell 2 56) _:=ZH H R Wg R I.ra0 (u_1 _) R
 have I:=(I.pl2.pl2.pl2).drop
 exact u_2 (ZT H R aa ⟨_,R,R,I⟩)
def Jn (b : V44 × Int) : Option (Fl (V44 × Int) V44) :=
 if decide (b.2 < 4) then ((ZP b.1 b.2).bind λc=>(ZP c b.2).bind λd=>some (Fl.nx ((b.1.setIfInBounds (b.2).toNat (c.setIfInBounds (b.2).toNat 1)),wr (b.2 + 1)))) else (some (Fl.ex b.1))
def Ts : Option (V44) :=
 (ZK (Jn) ((Vector.replicate 4 (Vector.replicate 4 (0 : UInt8))),0)).bind λb=>some b
theorem yP (h : World)  (r : V44) (hF : Ts  = some r) :
  Calls prog 334 [].toArray h (Rt h (Value.agg (enc r).toArray)):=by
 refine ce func334 ?_
 intro a H
 have I:=M.start h
 unfold Ts at hF
 refine Zb (Zx H I Ve λl w a I H=>Ze (Zb (Xi (parts:=[]) (vs:=[]) (cs:=enc xc) H Za ld R R Ve R Xo YK λa H=>Zx H I Ve λm w a I H=>s_w xc H I Za R R R Ve λw a I H=>Ze (s_2 (Zb (Zc H R λa H=>Ze ?_))))))
 obtain ⟨q,n,o⟩:=p_1 hF
 refine ZX (λa w=>Env 13 a [(0,ptr l 0),(1,ptr m 0)] ∧ M (Old h) h w [raw m (enc q),raw l xx]) ?_ ?_
 ·refine p_2 ?_
  refine ZN (λ(f : V44 × Int) a w=>Env 13 a [(0,ptr l 0),(1,ptr m 0),(2,vI f.2)] ∧ M (Old h) h w [raw m (enc f.1),raw l xx]) n ⟨H.s,I⟩ ?_
  rintro f a w ⟨H,I⟩ t b i
  unfold Jn at b
  refine s_2 (Zb (Zd H R λa H=>Zm H R R R λa H=>Ze ?_))
  refine c_if H R b ?_ ?_
  ·intro j b
   refine t_2 (Zw (s_2 (p_2 (s_1 (Zd H R λa H=>Zd H R λa H=>?_)))))
   obtain ⟨e,d,b⟩:=bvx b
   refine ZC H R R p_3 Xo d.1 λa H=>?_
   obtain ⟨u,c,b⟩:=bvx b
   refine ZC H R R p_4 ty5 c.1 λa H=>Zk (seg:=[vB 1]) (cs':=enc (f.1.setIfInBounds (f.2).toNat (e.setIfInBounds (f.2).toNat 1))) H I Za R R R ty5 R (WY (o':=0 + (f.2).toNat * 1) d (ZS (v:=e) (x:=1) c.1) of_) (t_1 (1 : UInt8)) (X5 (o':=0 + (f.2).toNat * 1) d (ZS (v:=e) (x:=1) c.1) (ZF (v:=e) (x:=1) c.1) of_) λw a I H=>Zf (Yn (Zw (s_1 (Zd H R λa H=>Zm H R R R λa H=>Zc H R λa H=>Zf (Zi ?_)))))
   exact ⟨_,ois b,H.s,I⟩
  intro j b
  refine s_3 (Zp (Zp (Yv ?_)))
  obtain rfl:=i _ (ois b)
  refine Zi ?_
  exact ⟨H.s,I⟩
 rintro a w ⟨H,I⟩
 refine Zw (Zb (Zu H R Ve R I.ra0 (u_1 _) λa H=>?_))
 have I:=I.pl1
 refine s_w q H I Za R R R Ve λw a I H=>Ze ?_
 obtain rfl:=o_1 o
 have k : Z8 prog _ _ (.cell 0 59) _:=ZH H R Ve R I.ra0 (u_1 _) R
 exact u_2 (ZT H R k ⟨_,R,R,I.kept⟩)
def JB (c : V44 × V44 × UInt8 × Int) (b : Int) : Option (Fl Int Int) :=
 (if decide (b < 4) then ((ZP c.1 b).bind λd=>(ZP d c.2.2.2).bind λe=>some (e == 0)) else (some false) : Option (Bool)).bind λf=>if f then (some (Fl.nx (wr (b + 1)))) else (some (Fl.ex b))
def Tj (o : Int) (c : V44 × V44 × UInt8 × Int) (f : UInt8) (b : V44 × V44 × Int) : Option (Fl (V44 × V44 × Int) (V44 × V44)) :=
 if decide (b.2.2 < 4) then (((ZP b.1 c.2.2.2).bind λh=>(ZP h b.2.2).bind λi=>(YO o i f).bind λj=>(ZP b.1 c.2.2.2).bind λd=>(ZP d b.2.2).bind λq=>some (b.1.setIfInBounds (c.2.2.2).toNat (d.setIfInBounds (b.2.2).toNat j)) : Option (V44)).bind λk=>(ZP b.2.1 c.2.2.2).bind λl=>(ZP l b.2.2).bind λm=>(YO o m f).bind λn=>(ZP b.2.1 c.2.2.2).bind λe=>(ZP e b.2.2).bind λt=>some (Fl.nx (k,b.2.1.setIfInBounds (c.2.2.2).toNat (e.setIfInBounds (b.2.2).toNat n),wr (b.2.2 + 1)))) else (some (Fl.ex (b.1,b.2.1)))
def WW (z : Int) (h : V44 × V44 × UInt8 × Int) (c : V44 × V44 × Int) (d : UInt8) (b : V44 × V44 × Int) : Option (Fl (V44 × V44 × Int) (V44 × V44)) :=
 (if decide (b.2.2 < 4) then (some (c.2.2 != h.2.2.2)) else (some false) : Option (Bool)).bind λi=>if i then (((ZP b.1 c.2.2).bind λj=>(ZP j b.2.2).bind λk=>(ZP b.1 h.2.2.2).bind λl=>(ZP l b.2.2).bind λm=>(YO z d m).bind λn=>(ZP b.1 c.2.2).bind λe=>(ZP e b.2.2).bind λA=>some (b.1.setIfInBounds (c.2.2).toNat (e.setIfInBounds (b.2.2).toNat (k ^^^ n))) : Option (V44)).bind λo=>(ZP b.2.1 c.2.2).bind λq=>(ZP q b.2.2).bind λt=>(ZP b.2.1 h.2.2.2).bind λu=>(ZP u b.2.2).bind λx=>(YO z d x).bind λy=>(ZP b.2.1 c.2.2).bind λf=>(ZP f b.2.2).bind λB=>some (Fl.nx (o,b.2.1.setIfInBounds (c.2.2).toNat (f.setIfInBounds (b.2.2).toNat (t ^^^ y)),wr (b.2.2 + 1)))) else (some (Fl.ex (b.1,b.2.1)))
def Tq (h : Int) (d : V44 × V44 × UInt8 × Int) (b : V44 × V44 × Int) : Option (Fl (V44 × V44 × Int) (V44 × V44)) :=
 if decide (b.2.2 < 4) then ((ZP b.1 b.2.2).bind λe=>(ZP e d.2.2.2).bind λf=>(ZK (WW h d b f) (b.1,b.2.1,0)).bind λc=>some (Fl.nx (c.1,c.2,wr (b.2.2 + 1)))) else (some (Fl.ex (b.1,b.2.1)))
def WU (j : Int) (b : V44 × V44 × UInt8 × Int) : Option (Fl (V44 × V44 × UInt8 × Int) (Fl (V44 × UInt8) (UInt8 × V44))) :=
 if decide (b.2.2.2 < 4) then ((ZK (JB b) b.2.2.2).bind λc=>if c == 4 then (some (Fl.ex (Fl.ex (0,Vector.replicate 4 (Vector.replicate 4 (0 : UInt8)))))) else ((ZP b.1 c).bind λf=>(ZP b.2.1 c).bind λk=>(ZP b.1 b.2.2.2).bind λd=>(ZP b.1 c).bind λu=>(ZP (b.1.setIfInBounds (c).toNat d) b.2.2.2).bind λx=>(ZP b.2.1 b.2.2.2).bind λh=>(ZP b.2.1 c).bind λy=>(ZP (b.2.1.setIfInBounds (c).toNat h) b.2.2.2).bind λz=>(ZP ((b.1.setIfInBounds (c).toNat d).setIfInBounds (b.2.2.2).toNat f) b.2.2.2).bind λl=>(ZP l b.2.2.2).bind λm=>(YO j b.2.2.1 m).bind λn=>(ZP ((b.1.setIfInBounds (c).toNat d).setIfInBounds (b.2.2.2).toNat f) b.2.2.2).bind λo=>(ZP o b.2.2.2).bind λq=>(Un j q).bind λt=>(ZK (Tj j b t) (((b.1.setIfInBounds (c).toNat d).setIfInBounds (b.2.2.2).toNat f),(b.2.1.setIfInBounds (c).toNat h).setIfInBounds (b.2.2.2).toNat k,0)).bind λi=>(ZK (Tq j b) (i.1,i.2,0)).bind λe=>some (Fl.nx (e.1,e.2,n,wr (b.2.2.2 + 1))))) else (some (Fl.ex (Fl.nx (b.2.1,b.2.2.1))))
def T9 (d : Int) (e : V44) : Option (UInt8 × V44) :=
 (Ts).bind λf=>(ZK (WU d) (e,f,1,0)).bind λh=>h.el (λc=>(some (c.1,c.2) : Option (V44 × UInt8)).bind λb=>some (b.2,b.1)) (λr=>some r)
theorem kB (B : World) (p0 : Int) (p1 : V44) (r : UInt8 × V44) (hF : T9 p0 p1 = some r) :
  Calls prog 321 [vI p0,Value.agg (enc p1).toArray].toArray B (Rt B (Value.tuple [vB r.1,Value.agg (enc r.2).toArray].toArray)):=by
 refine ce func321 ?_
 intro a H
 have I:=M.start B
 unfold T9 at hF
 refine Zb (ZY (cs:=enc p1) H I Za ld R R λX w a I H=>Zc H R λa H=>Zx H I Ve λK w a I H=>Ze (Zb ?_))
 obtain ⟨r5,e6,hF⟩:=p_1 hF
 refine c_k H I R (cbm func334) (yP _  r5 e6) λw a I H=>?_
 refine Zx H I Ve λL w a I H=>s_w r5 H I Za R R R Ve λw a I H=>Zc H R λa H=>Ze (s_2 (Zb (Zc H R λa H=>Ze ?_)))
 obtain ⟨j9,cw,av⟩:=p_1 hF
 refine ZX (λa w=>∃ a1 : V44 × UInt8,j9 = Fl.nx a1 ∧ Env 159 a [(5,ptr K 0),(6,ptr L 0),(7,vB a1.2)] ∧ M (Old B) B w [raw L (enc a1.1),raw K xx]) ?_ ?_
 ·refine p_2 ?_
  refine ZN (λ(d : V44 × V44 × UInt8 × Int) a w=>Env 159 a [(0,vI p0),(3,ptr X 0),(5,ptr K 0),(6,ptr L 0),(7,vB d.2.2.1),(8,vI d.2.2.2)] ∧ M (Old B) B w [raw L (enc d.2.1),raw K xx,raw X (enc d.1)]) cw ⟨H.s,I⟩ ?_
  rintro d a w ⟨H,I⟩ ec ae br
  unfold WU at ae
  refine s_2 (Zb (Zd H R λa H=>Zm H R R R λa H=>Ze ?_))
  refine c_if H R ae ?_ ?_
  ·intro cx ae
   refine t_2 (Zw (s_2 (p_2 (Zb (Zd H R λa H=>Zc H R λa H=>Ze ?_)))))
   obtain ⟨ah,cy,b⟩:=p_1 ae
   refine ZG (λa w=>Env 159 a [(0,vI p0),(3,ptr X 0),(5,ptr K 0),(6,ptr L 0),(7,vB d.2.2.1),(8,vI d.2.2.2),(9,vI ah)] ∧ M (Old B) B w [raw L (enc d.2.1),raw K xx,raw X (enc d.1)]) ?_ ?_
   ·refine p_2 ?_
    refine ZN (λ(bq : Int) a w=>Env 159 a [(0,vI p0),(3,ptr X 0),(5,ptr K 0),(6,ptr L 0),(7,vB d.2.2.1),(8,vI d.2.2.2),(9,vI bq)] ∧ M (Old B) B w [raw L (enc d.2.1),raw K xx,raw X (enc d.1)]) cy ⟨H.s,I⟩ ?_
    rintro bq a w ⟨H,I⟩ ed bs cz
    unfold JB at bs
    refine s_2 ?_
    obtain ⟨dl,C,am⟩:=p_1 bs
    refine ZG (λa w=>Env 159 a [(0,vI p0),(3,ptr X 0),(5,ptr K 0),(6,ptr L 0),(7,vB d.2.2.1),(8,vI d.2.2.2),(9,vI bq),(32,vT dl)] ∧ M (Old B) B w [raw L (enc d.2.1),raw K xx,raw X (enc d.1)]) ?_ ?_
    ·refine s_1 (Zd H R λa H=>Zm H R R R λa H=>Zd H R λa H=>?_)
     refine Yq (decide (bq < 4)) (λn=>?_) (λn=>?_)
     ·have C:=Zt C n
      refine Zl H (Zh H R (lkb R n)) dd_ R λa H=>Zl H (Zh H R (lkb R n)) dd_ R λa H=>?_
      obtain ⟨ee,bt,C⟩:=bvx C
      refine ZI H (Zh H R (lkb R n)) dd_ R R p_3 Xo bt.1 λa H=>?_
      obtain ⟨c0,bu,C⟩:=bvx C
      refine ZI H (Zh H R (lkb R n)) dd_ R R p_4 ty5 bu.1 λa H=>ZL (v:=(vB c0)) H (Zh H R (lkb R n)) dd_ R ty5 R (At.vec (At.vec I.ra2 bt.2) bu.2) λa H=>Ye H (Zh H R (lkb R n)) dd_ R R (Zfd c0 0) λa H=>Z2 H (lkb R n) R λa H=>Zf ?_
      obtain rfl:=o_1 C
      refine Zi ?_
      exact ⟨H.s,I⟩
     have C:=Zs C n
     refine k_s H n R R R λa H=>k_s H n R R R λa H=>k_s H n R R R λa H=>k_s H n R R R λa H=>k_s H n R R R λa H=>k_s H n R R R λa H=>ZZ H (lkb R n) R λa H=>Zf ?_
     obtain rfl:=o_1 C
     refine Zi ?_
     exact ⟨H.s,I⟩
    rintro a w ⟨H,I⟩
    refine c_if H R am ?_ ?_
    ·intro c1 am
     refine t_2 (Zw (p_2 (s_1 (Zd H R λa H=>Zm H R R R λa H=>Zc H R λa H=>Zf (Yn (Zi ?_))))))
     exact ⟨_,ois am,H.s,I⟩
    intro c1 am
    refine s_3 (Zp (Zp (Yv ?_)))
    obtain rfl:=cz _ (ois am)
    refine Zi ?_
    exact ⟨H.s,I⟩
   rintro a w ⟨H,I⟩
   refine s_2 (Zb (Zd H R λa H=>Zm H R R R λa H=>Ze ?_))
   refine c_if H R b ?_ ?_
   ·intro c2 b
    refine Zb (Xi (parts:=[]) (vs:=[]) (cs:=enc xc) H Za ld R R Ve R Xo YK λa H=>Zc H R λa H=>?_)
    have I:=I.pl1
    refine s_w xc H I Za R R R Ve λw a I H=>Ze ?_
    obtain rfl:=br _ (ois b)
    obtain rfl:=o_1 av
    have c3 : Z8 prog _ _ (.cell 5 59) _:=ZH H R Ve R I.ra0 (u_1 _) R
    exact u_2 (ZA (YZ (ZA (ZA (YZ (ZA (ZA (YN H R (Zy H R) c3 ⟨_,R,R,I.kept⟩))))))))
   intro c2 b
   refine t_2 (Zw (s_2 ?_))
   obtain ⟨a0,bv,b⟩:=bvx b
   obtain ⟨a2,bw,b⟩:=bvx b
   refine Y0 (its:=[raw L (enc d.2.1),raw K xx,raw X (enc d.1)]) (mk:=([mkC 6 8 (enc xg) (enc a0),mkO 7 (λv=>Th v (enc xg))] : Mk)) [38,39,40,41,42,43,10,11,167] YJ R R dd_ R H (λu=>M.qE (M.qE (M.q0 I.drew u) emO) emC) (q_m (λ_=>R) (qsP (λz=>ZI z.E Za ld R R p_3 Xo bv.1 (kr0 R)) (qsP (λz=>ZB z.E Za ld R Xo R (At.vec (z.M.ra2) bv.2) (u_1 _) (kr0 R)) (q_m (λ_=>R) (qsP (λz=>ZI z.E Za ld R R p_3 Xo bw.1 (kr0 R)) (qsP (λz=>ZB z.E Za ld R Xo R (At.vec (z.M.ra0) bw.2) (u_1 _) (kr0 R)) (q_t ?_ (q_t ?_ (q_t ?_ qs0))))))))) ?_
   ·intro a w a3 D z
    have H:=z.E
    have hD : D 6 = false:=z.F
    have I:=z.M
    refine Zx H I Xo λef w a I H=>?_
    have hs : D 8 = false:=Kb (j:=8) (k:=0) z.c R R R hD
    exact ⟨_,_,R,H,M.qAlloc (mk1:=[]) (mk2:=[_]) I R hD hs dd_,trivial⟩
   ·intro a w a3 D z
    have H:=z.E
    have hD : D 7 = false:=z.F
    have I:=z.M
    refine Zx H I Xo λeg w a I H=>?_
    have I:=I.pack1 (it:=Th _ (enc xg)) (λw w' fp ⟨b',e,k⟩ hb=>⟨b',e,XR w w' fp k hb⟩) (λfp k=>⟨_,R,k⟩)
    exact ⟨_,_,R,H,M.qFill (mk1:=[_]) (mk2:=[]) (f:=λv=>Th v (enc xg)) I R hD,trivial⟩
   ·intro a w a3 D z
    have H:=z.E
    have hD : D 8 = false:=z.F
    have d6 : D 6 = true:=z.p 0 _ R R
    have I:=z.M
    obtain ⟨eh,bx,I⟩:=M.openCellF (pre:=[_,_,_]) I d6 hD
    exact s_w a0 H I Za (lk R bx) R R Xo λw a I H=>⟨undef,_,R,Env.dummy H dd_,M.qStore (i:=6) (mk1:=[]) (mk2:=[_]) I R d6 bx dd_,trivial⟩
   intro a w a3 D H I hG a4
   have d6:=a4 6 dd_
   have d7:=a4 7 dd_
   have d8:=a4 8 dd_
   obtain ⟨ek,dm,I⟩:=M.openCellT (pre:=[_,_,_]) I d6 d8
   have I:=(I.sure (pre:=[_,_,_,_]) d7).pl
   obtain ⟨_,⟨dp,c4,_⟩,_⟩:=I.head
   have I:=I.pack1 XR (it:=raw dp (enc xg)) (λfp ⟨b2,e2,k2⟩=>by rw [c4] at e2; simp [ptr] at e2; subst e2; exact k2)
   have H:=H.setq (t:=10) R dm
   have H:=H.setq (t:=11) R c4
   refine s_w a2 H I Za R R R Xo λw a I H=>Zf (Zw (Zb (Zd H R λa H=>Zd H R λa H=>?_)))
   obtain ⟨an,bz,b⟩:=bvx b
   refine ZC H R R p_3 Xo bz.1 λa H=>Zu H R Xo R (At.vec I.ra4 bz.2) (u_1 _) λa H=>?_
   obtain ⟨en,a5,b⟩:=bvx b
   refine ZC H R R p_3 Xo a5.1 λa H=>?_
   have I:=I.pl4
   refine Zk (seg:=enc an) (cs':=enc (d.1.setIfInBounds (ah).toNat an)) H I Za R R R Xo (u_1 _) (ZS (v:=d.1) (x:=an) a5.1) (t_1 _) (ZF (v:=d.1) (x:=an) a5.1) λw a I H=>Ze (Zb (Zd H R λa H=>Zu H R Xo R I.ra2 (u_1 _) λa H=>?_))
   obtain ⟨eo,a6,b⟩:=bvx b
   refine ZC H R R p_3 Xo a6.1 λa H=>Zk (seg:=enc a0) (cs':=enc ((d.1.setIfInBounds (ah).toNat an).setIfInBounds (d.2.2.2).toNat a0)) H I Za R R R Xo (u_1 _) (ZS (v:=(d.1.setIfInBounds (ah).toNat an)) (x:=a0) a6.1) (t_1 _) (ZF (v:=(d.1.setIfInBounds (ah).toNat an)) (x:=a0) a6.1) λw a I H=>Ze (Zb (Zd H R λa H=>Zd H R λa H=>?_))
   obtain ⟨ao,b0,b⟩:=bvx b
   refine ZC H R R p_3 Xo b0.1 λa H=>Zu H R Xo R (At.vec I.ra3 b0.2) (u_1 _) λa H=>?_
   obtain ⟨ep,a7,b⟩:=bvx b
   refine ZC H R R p_3 Xo a7.1 λa H=>?_
   have I:=I.pl3
   refine Zk (seg:=enc ao) (cs':=enc (d.2.1.setIfInBounds (ah).toNat ao)) H I Za R R R Xo (u_1 _) (ZS (v:=d.2.1) (x:=ao) a7.1) (t_1 _) (ZF (v:=d.2.1) (x:=ao) a7.1) λw a I H=>Ze (Zb (Zd H R λa H=>Zu H R Xo R I.ra2 (u_1 _) λa H=>?_))
   obtain ⟨er,a8,b⟩:=bvx b
   refine ZC H R R p_3 Xo a8.1 λa H=>Zk (seg:=enc a2) (cs':=enc ((d.2.1.setIfInBounds (ah).toNat ao).setIfInBounds (d.2.2.2).toNat a2)) H I Za R R R Xo (u_1 _) (ZS (v:=(d.2.1.setIfInBounds (ah).toNat ao)) (x:=a2) a8.1) (t_1 _) (ZF (v:=(d.2.1.setIfInBounds (ah).toNat ao)) (x:=a2) a8.1) λw a I H=>Ze (Zb (Zd H R λa H=>Zd H R λa H=>Zd H R λa H=>Zd H R λa H=>?_))
   obtain ⟨es,b4,b⟩:=bvx b
   refine ZC H R R p_3 Xo b4.1 λa H=>?_
   obtain ⟨c5,b5,b⟩:=bvx b
   refine ZC H R R p_4 ty5 b5.1 λa H=>ZO (v:=(vB c5)) H R ty5 R (At.vec (At.vec I.ra1 b4.2) b5.2) λa H=>?_
   obtain ⟨ad,dr,b⟩:=p_1 b
   refine c_k H I R ya (X9 _ p0 d.2.2.1 c5 ad dr) λw a I H=>?_
   refine Zc H R λa H=>Ze (Zb (Zd H R λa H=>Zd H R λa H=>Zd H R λa H=>?_))
   obtain ⟨et,b6,b⟩:=bvx b
   refine ZC H R R p_3 Xo b6.1 λa H=>?_
   obtain ⟨c6,b8,b⟩:=bvx b
   refine ZC H R R p_4 ty5 b8.1 λa H=>ZO (v:=(vB c6)) H R ty5 R (At.vec (At.vec I.ra1 b6.2) b8.2) λa H=>?_
   obtain ⟨a9,ds,b⟩:=p_1 b
   refine c_k H I R (cbm func264) (zZ _ p0 c6 a9 ds) λw a I H=>?_
   refine Zc H R λa H=>Ze (s_2 (Zb (Zc H R λa H=>Ze ?_)))
   obtain ⟨c7,c8,c9⟩:=p_1 b
   refine ZX (λa w=>Env 159 a [(0,vI p0),(3,ptr X 0),(5,ptr K 0),(6,ptr L 0),(7,vB ad),(8,vI d.2.2.2)] ∧ M (Old B) B w [raw L (enc c7.2),raw X (enc c7.1),raw K xx]) ?_ ?_
   ·refine p_2 ?_
    have I:=I.pl4.pl2.pl2.f_3
    refine ZN (λ(N : V44 × V44 × Int) a w=>Env 159 a [(0,vI p0),(3,ptr X 0),(5,ptr K 0),(6,ptr L 0),(7,vB ad),(8,vI d.2.2.2),(12,vB a9),(13,vI N.2.2)] ∧ M (Old B) B w [raw L (enc N.2.1),raw X (enc N.1),raw K xx]) c8 ⟨H.s,I⟩ ?_
    rintro N a w ⟨H,I⟩ eu af da
    unfold Tj at af
    refine s_2 (Zb (Zd H R λa H=>Zm H R R R λa H=>Ze ?_))
    refine c_if H R af ?_ ?_
    ·intro ch af
     refine t_2 (Zw (s_2 (p_2 ?_)))
     obtain ⟨db,o,q⟩:=p_1 af
     refine ZG (λa w=>Env 159 a [(0,vI p0),(3,ptr X 0),(5,ptr K 0),(6,ptr L 0),(7,vB ad),(8,vI d.2.2.2),(12,vB a9),(13,vI N.2.2)] ∧ M (Old B) B w [raw L (enc N.2.1),raw X (enc db),raw K xx]) ?_ ?_
     ·obtain ⟨du,ba,o⟩:=bvx o
      obtain ⟨b9,bb,o⟩:=bvx o
      obtain ⟨Z,dc,o⟩:=p_1 o
      obtain ⟨aw,ap,o⟩:=bvx o
      obtain ⟨dv,ai,o⟩:=bvx o
      refine Z7 [79,80,81,82,83,84,85,86,87,88,89,90] YJ R R dd_ R H I (q_m (λ_=>R) (q_m (λ_=>R) (q_m (λ_=>R) (q_m (λ_=>R) (q_m (λ_=>R) (qsP (λz=>ZI z.E Za ld R R p_3 Xo ba.1 (kr0 R)) (qsP (λz=>ZI z.E Za ld R R p_4 ty5 bb.1 (kr0 R)) (qsP (λz=>ZL (v:=(vB b9)) z.E Za ld R ty5 R (At.vec (At.vec (z.M.ra1) ba.2) bb.2) (kr0 R)) (q_m (λ_=>R) (qsP (λz=>ZW z.E Za ld R ya (X9 _ p0 b9 a9 Z dc) (kc R)) (qsP (λz=>ZI z.E Za ld R R p_3 Xo ap.1 (kr0 R)) (qsP (λz=>ZI z.E Za ld R R p_4 ty5 ai.1 (kr0 R)) qs0)))))))))))) ?_
      ·intro a w u H I
       have I:=I.pl1
       refine Zk (seg:=[vB Z]) (cs':=enc (N.1.setIfInBounds (d.2.2.2).toNat (aw.setIfInBounds (N.2.2).toNat Z))) H I Za R R R ty5 R (WY (o':=0 + (N.2.2).toNat * 1) ap (ZS (v:=aw) (x:=Z) ai.1) of_) (t_1 (Z : UInt8)) (X5 (o':=0 + (N.2.2).toNat * 1) ap (ZS (v:=aw) (x:=Z) ai.1) (ZF (v:=aw) (x:=Z) ai.1) of_) λw a I H=>Zf ?_
       obtain rfl:=o_1 o
       refine Zi ?_
       have I:=I.pl2.pl1.pl2
       exact ⟨H.s,I⟩
     rintro a w ⟨H,I⟩
     obtain ⟨dw,bc,q⟩:=bvx q
     obtain ⟨ca,bd,q⟩:=bvx q
     obtain ⟨aa,dd,q⟩:=p_1 q
     obtain ⟨ax,aq,q⟩:=bvx q
     obtain ⟨dx,aj,q⟩:=bvx q
     refine Z7 [91,92,93,94,95,96,97,98,99,100,101,102] YJ R R dd_ R H I (q_m (λ_=>R) (q_m (λ_=>R) (q_m (λ_=>R) (q_m (λ_=>R) (q_m (λ_=>R) (qsP (λz=>ZI z.E Za ld R R p_3 Xo bc.1 (kr0 R)) (qsP (λz=>ZI z.E Za ld R R p_4 ty5 bd.1 (kr0 R)) (qsP (λz=>ZL (v:=(vB ca)) z.E Za ld R ty5 R (At.vec (At.vec (z.M.ra0) bc.2) bd.2) (kr0 R)) (q_m (λ_=>R) (qsP (λz=>ZW z.E Za ld R ya (X9 _ p0 ca a9 aa dd) (kc R)) (qsP (λz=>ZI z.E Za ld R R p_3 Xo aq.1 (kr0 R)) (qsP (λz=>ZI z.E Za ld R R p_4 ty5 aj.1 (kr0 R)) qs0)))))))))))) ?_
     ·intro a w u H I
      refine Zk (seg:=[vB aa]) (cs':=enc (N.2.1.setIfInBounds (d.2.2.2).toNat (ax.setIfInBounds (N.2.2).toNat aa))) H I Za R R R ty5 R (WY (o':=0 + (N.2.2).toNat * 1) aq (ZS (v:=ax) (x:=aa) aj.1) of_) (t_1 (aa : UInt8)) (X5 (o':=0 + (N.2.2).toNat * 1) aq (ZS (v:=ax) (x:=aa) aj.1) (ZF (v:=ax) (x:=aa) aj.1) of_) λw a I H=>Zf (Yn (Zw (s_1 (Zd H R λa H=>Zm H R R R λa H=>Zc H R λa H=>Zf (Zi ?_)))))
      exact ⟨_,ois q,H.s,I⟩
    intro ch af
    refine s_3 (Zp (Zp (Yv ?_)))
    obtain rfl:=da _ (ois af)
    refine Zi ?_
    exact ⟨H.s,I⟩
   rintro a w ⟨H,I⟩
   refine Zw (Zb (Zc H R λa H=>Ze ?_))
   obtain ⟨cb,ci,cj⟩:=p_1 c9
   refine ZX (λa w=>Env 159 a [(0,vI p0),(3,ptr X 0),(5,ptr K 0),(6,ptr L 0),(7,vB ad),(8,vI d.2.2.2)] ∧ M (Old B) B w [raw L (enc cb.2),raw X (enc cb.1),raw K xx]) ?_ ?_
   ·refine p_2 ?_
    refine ZN (λ(G : V44 × V44 × Int) a w=>Env 159 a [(0,vI p0),(3,ptr X 0),(5,ptr K 0),(6,ptr L 0),(7,vB ad),(8,vI d.2.2.2),(14,vI G.2.2)] ∧ M (Old B) B w [raw L (enc G.2.1),raw X (enc G.1),raw K xx]) ci ⟨H.s,I⟩ ?_
    rintro G a w ⟨H,I⟩ dy A cl
    unfold Tq at A
    refine s_2 (Zb (Zd H R λa H=>Zm H R R R λa H=>Ze ?_))
    refine c_if H R A ?_ ?_
    ·intro cm A
     refine t_2 (Zw (s_2 (p_2 (Zb (Zd H R λa H=>Zd H R λa H=>?_)))))
     obtain ⟨dz,be,A⟩:=bvx A
     refine ZC H R R p_3 Xo be.1 λa H=>?_
     obtain ⟨ag,bg,A⟩:=bvx A
     refine ZC H R R p_4 ty5 bg.1 λa H=>ZO (v:=(vB ag)) H R ty5 R (At.vec (At.vec I.ra1 be.2) bg.2) λa H=>Zc H R λa H=>Ze (Zb (Zc H R λa H=>Ze ?_))
     obtain ⟨cc,cn,co⟩:=p_1 A
     refine ZX (λa w=>Env 159 a [(0,vI p0),(3,ptr X 0),(5,ptr K 0),(6,ptr L 0),(7,vB ad),(8,vI d.2.2.2),(14,vI G.2.2)] ∧ M (Old B) B w [raw L (enc cc.2),raw X (enc cc.1),raw K xx]) ?_ ?_
     ·refine p_2 ?_
      refine ZN (λ(m : V44 × V44 × Int) a w=>Env 159 a [(0,vI p0),(3,ptr X 0),(5,ptr K 0),(6,ptr L 0),(7,vB ad),(8,vI d.2.2.2),(14,vI G.2.2),(15,vB ag),(16,vI m.2.2)] ∧ M (Old B) B w [raw L (enc m.2.1),raw X (enc m.1),raw K xx]) cn ⟨H.s,I⟩ ?_
      rintro m a w ⟨H,I⟩ d0 bh cp
      unfold WW at bh
      refine s_2 ?_
      obtain ⟨de,Y,ab⟩:=p_1 bh
      refine ZG (λa w=>Env 159 a [(0,vI p0),(3,ptr X 0),(5,ptr K 0),(6,ptr L 0),(7,vB ad),(8,vI d.2.2.2),(14,vI G.2.2),(15,vB ag),(16,vI m.2.2),(118,vT de)] ∧ M (Old B) B w [raw L (enc m.2.1),raw X (enc m.1),raw K xx]) ?_ ?_
      ·refine s_1 (Zd H R λa H=>Zm H R R R λa H=>Zd H R λa H=>?_)
       refine Yq (decide (m.2.2 < 4)) (λy=>?_) (λy=>?_)
       ·have Y:=Zt Y y
        refine Zl H (Zh H R (lkb R y)) dd_ R λa H=>Zl H (Zh H R (lkb R y)) dd_ R λa H=>Ye H (Zh H R (lkb R y)) dd_ R R R λa H=>Z2 H (lkb R y) R λa H=>Zf ?_
        obtain rfl:=o_1 Y
        refine Zi ?_
        exact ⟨H.s,I⟩
       have Y:=Zs Y y
       refine k_s H y R R R λa H=>k_s H y R R R λa H=>k_s H y R R R λa H=>ZZ H (lkb R y) R λa H=>Zf ?_
       obtain rfl:=o_1 Y
       refine Zi ?_
       exact ⟨H.s,I⟩
      rintro a w ⟨H,I⟩
      refine c_if H R ab ?_ ?_
      ·intro cr ab
       refine t_2 (Zw (s_2 (p_2 ?_)))
       obtain ⟨dg,h,l⟩:=p_1 ab
       refine ZG (λa w=>Env 159 a [(0,vI p0),(3,ptr X 0),(5,ptr K 0),(6,ptr L 0),(7,vB ad),(8,vI d.2.2.2),(14,vI G.2.2),(15,vB ag),(16,vI m.2.2)] ∧ M (Old B) B w [raw L (enc m.2.1),raw X (enc dg),raw K xx]) ?_ ?_
       ·obtain ⟨d1,bi,h⟩:=bvx h
        obtain ⟨O,bj,h⟩:=bvx h
        obtain ⟨d2,bk,h⟩:=bvx h
        obtain ⟨cd,bl,h⟩:=bvx h
        obtain ⟨T,dh,h⟩:=p_1 h
        obtain ⟨ay,ar,h⟩:=bvx h
        obtain ⟨d3,ak,h⟩:=bvx h
        refine Z7 [121,122,123,124,125,126,127,128,129,130,131,132,133,134,135,136,137,138] YJ R R dd_ R H I (q_m (λ_=>R) (q_m (λ_=>R) (q_m (λ_=>R) (q_m (λ_=>R) (qsP (λz=>ZI z.E Za ld R R p_3 Xo bi.1 (kr0 R)) (qsP (λz=>ZI z.E Za ld R R p_4 ty5 bj.1 (kr0 R)) (qsP (λz=>ZL (v:=(vB O)) z.E Za ld R ty5 R (At.vec (At.vec (z.M.ra1) bi.2) bj.2) (kr0 R)) (q_m (λ_=>R) (q_m (λ_=>R) (q_m (λ_=>R) (q_m (λ_=>R) (qsP (λz=>ZI z.E Za ld R R p_3 Xo bk.1 (kr0 R)) (qsP (λz=>ZI z.E Za ld R R p_4 ty5 bl.1 (kr0 R)) (qsP (λz=>ZL (v:=(vB cd)) z.E Za ld R ty5 R (At.vec (At.vec (z.M.ra1) bk.2) bl.2) (kr0 R)) (qsP (λz=>ZW z.E Za ld R ya (X9 _ p0 ag cd T dh) (kc R)) (qsP (v:=(vB (O ^^^ T))) (λz=>Ye z.E Za ld R R (VH O T) (kr0 R)) (qsP (λz=>ZI z.E Za ld R R p_3 Xo ar.1 (kr0 R)) (qsP (λz=>ZI z.E Za ld R R p_4 ty5 ak.1 (kr0 R)) qs0)))))))))))))))))) ?_
        ·intro a w u H I
         have I:=I.pl1
         refine Zk (seg:=[vB (O ^^^ T)]) (cs':=enc (m.1.setIfInBounds (G.2.2).toNat (ay.setIfInBounds (m.2.2).toNat (O ^^^ T)))) H I Za R R R ty5 R (WY (o':=0 + (m.2.2).toNat * 1) ar (ZS (v:=ay) (x:=O ^^^ T) ak.1) of_) (t_1 (O ^^^ T : UInt8)) (X5 (o':=0 + (m.2.2).toNat * 1) ar (ZS (v:=ay) (x:=O ^^^ T) ak.1) (ZF (v:=ay) (x:=O ^^^ T) ak.1) of_) λw a I H=>Zf ?_
         obtain rfl:=o_1 h
         refine Zi ?_
         have I:=I.pl2.pl1.pl2
         exact ⟨H.s,I⟩
       rintro a w ⟨H,I⟩
       obtain ⟨d4,bm,l⟩:=bvx l
       obtain ⟨U,bn,l⟩:=bvx l
       obtain ⟨d5,bo,l⟩:=bvx l
       obtain ⟨cf,bp,l⟩:=bvx l
       obtain ⟨W,di,l⟩:=p_1 l
       obtain ⟨az,au,l⟩:=bvx l
       obtain ⟨d9,al,l⟩:=bvx l
       refine Z7 [139,140,141,142,143,144,145,146,147,148,149,150,151,152,153,154,155,156] YJ R R dd_ R H I (q_m (λ_=>R) (q_m (λ_=>R) (q_m (λ_=>R) (q_m (λ_=>R) (qsP (λz=>ZI z.E Za ld R R p_3 Xo bm.1 (kr0 R)) (qsP (λz=>ZI z.E Za ld R R p_4 ty5 bn.1 (kr0 R)) (qsP (λz=>ZL (v:=(vB U)) z.E Za ld R ty5 R (At.vec (At.vec (z.M.ra0) bm.2) bn.2) (kr0 R)) (q_m (λ_=>R) (q_m (λ_=>R) (q_m (λ_=>R) (q_m (λ_=>R) (qsP (λz=>ZI z.E Za ld R R p_3 Xo bo.1 (kr0 R)) (qsP (λz=>ZI z.E Za ld R R p_4 ty5 bp.1 (kr0 R)) (qsP (λz=>ZL (v:=(vB cf)) z.E Za ld R ty5 R (At.vec (At.vec (z.M.ra0) bo.2) bp.2) (kr0 R)) (qsP (λz=>ZW z.E Za ld R ya (X9 _ p0 ag cf W di) (kc R)) (qsP (v:=(vB (U ^^^ W))) (λz=>Ye z.E Za ld R R (VH U W) (kr0 R)) (qsP (λz=>ZI z.E Za ld R R p_3 Xo au.1 (kr0 R)) (qsP (λz=>ZI z.E Za ld R R p_4 ty5 al.1 (kr0 R)) qs0)))))))))))))))))) ?_
       ·intro a w u H I
        refine Zk (seg:=[vB (U ^^^ W)]) (cs':=enc (m.2.1.setIfInBounds (G.2.2).toNat (az.setIfInBounds (m.2.2).toNat (U ^^^ W)))) H I Za R R R ty5 R (WY (o':=0 + (m.2.2).toNat * 1) au (ZS (v:=az) (x:=U ^^^ W) al.1) of_) (t_1 (U ^^^ W : UInt8)) (X5 (o':=0 + (m.2.2).toNat * 1) au (ZS (v:=az) (x:=U ^^^ W) al.1) (ZF (v:=az) (x:=U ^^^ W) al.1) of_) λw a I H=>Zf (Yn (Zw (s_1 (Zd H R λa H=>Zm H R R R λa H=>Zc H R λa H=>Zf (Zi ?_)))))
        exact ⟨_,ois l,H.s,I⟩
      intro cr ab
      refine s_3 (Zp (Zp (Yv ?_)))
      obtain rfl:=cp _ (ois ab)
      refine Zi ?_
      exact ⟨H.s,I⟩
     rintro a w ⟨H,I⟩
     refine Yn (Zw (s_1 (Zd H R λa H=>Zm H R R R λa H=>Zc H R λa H=>Zf (Zi ?_))))
     exact ⟨_,ois co,H.s,I⟩
    intro cm A
    refine s_3 (Zp (Zp (Yv ?_)))
    obtain rfl:=cl _ (ois A)
    refine Zi ?_
    exact ⟨H.s,I⟩
   rintro a w ⟨H,I⟩
   refine Yn (Zw (s_1 (Zd H R λa H=>Zm H R R R λa H=>Zc H R λa H=>Zf (Zi ?_))))
   have I:=I.pl1.pl2.pl2
   exact ⟨_,ois cj,H.s,I⟩
  intro cx ae
  refine s_3 (Zp (Zp (Yv ?_)))
  obtain rfl:=br _ (ois ae)
  refine Zi ?_
  have I:=I.pl1.pl1.f_2
  exact ⟨(d.2.1,d.2.2.1),R,H.s,I⟩
 rintro a w ⟨a1,ht,H,I⟩
 subst ht
 have av:=JM av
 refine Zw ?_
 obtain ⟨cg,ct,cu⟩:=p_1 av
 refine ZG (λa w=>Env 159 a [(4,vB cg.2),(5,ptr K 0)] ∧ M (Old B) B w [raw K (enc cg.1)]) ?_ ?_
 ·refine Z7 [157,158,4] YJ R R dd_ R H I (q_m (λ_=>R) (qsP (λz=>ZB z.E Za ld R Ve R (z.M.ra0) (u_1 _) (kr0 R)) (qsP (λz=>K3 z.E Za ld R (kr0 R)) qs0))) ?_
  ·intro a w u H I
   have I:=I.pl1
   refine s_w a1.1 H I Za R R R Ve λw a I H=>Zf ?_
   obtain rfl:=o_1 ct
   refine Zi ?_
   have I:=I.f_1
   exact ⟨H.s,I⟩
 rintro a w ⟨H,I⟩
 obtain rfl:=o_1 cu
 have cv : Z8 prog _ _ (.cell 5 59) _:=ZH H R Ve R I.ra0 (u_1 _) R
 exact u_2 (YN H R (Zy H R) cv ⟨_,R,R,I.kept⟩)
def V1 (c : Int) (d : V44) : Option (V44 × Bool) :=
 (T9 c d).bind λb=>some (b.2,b.1 != 0)
theorem Bw (d : World) (e : Int) (b : V44) (r : V44 × Bool) (hF : V1 e b = some r) :
  Calls prog 279 [vI e,Value.agg (enc b).toArray].toArray d (Rt d (Value.tuple [Value.agg (enc r.1).toArray,vT r.2].toArray)):=by
 refine ce func279 ?_
 intro a H
 have I:=M.start d
 unfold V1 at hF
 refine Zb (ZY (cs:=enc b) H I Za ld R R λi w a I H=>Zx H I Ve λj w a I H=>Zc H R λa H=>Ze (Zb (Zd H R λa H=>Zu H R Ve R I.ra1 (u_1 _) λa H=>?_)))
 obtain ⟨c,h,hF⟩:=p_1 hF
 refine c_k H I R (cbm func321) (kB _ e b c h) λw a I H=>?_
 refine Zd H R λa H=>ZM H Za ld R R λa H=>ZM H Za ld R R λa H=>Zx H I Ve λk w a I H=>Zc H R λa H=>s_w c.2 H I Za R R R Ve λw a I H=>Ze (Zb (Zu H R Ve R I.ra0 (u_1 _) λa H=>Zd H R λa H=>Zm H R R (Za2 c.1 0) λa H=>?_))
 have I:=I.pl1
 refine s_w c.2 H I Za R R R Ve λw a I H=>Zc H R λa H=>Ze ?_
 obtain rfl:=o_1 hF
 have f : Z8 prog _ _ (.cell 4 59) _:=ZH H R Ve R I.ra0 (u_1 _) R
 exact u_2 (YN H R f (Zy H R) ⟨_,R,R,I.kept⟩)
def Jf (c : List UInt8) (b : V44 × Int × Int × Int) : Option (Fl (V44 × Int × Int × Int) (V44 × Int × Int)) :=
 if decide (b.2.2.2 > 0) then ((ZQ c (b.2.1,b.2.2.1) 4).bind λd=>(ZQ c (d.1.1,d.1.2) 4).bind λe=>(ZQ c (e.1.1,e.1.2) 256).bind λf=>(ZP b.1 d.2).bind λh=>(ZP h e.2).bind λi=>some (Fl.nx ((b.1.setIfInBounds (d.2).toNat (h.setIfInBounds (e.2).toNat (Zz f.2))),f.1.1,f.1.2,wr (b.2.2.2 - 1)))) else (some (Fl.ex (b.1,b.2.1,b.2.2.1)))
def Ki (b : List UInt8) (x : (Int × Int)) : Option ((Int × Int) × GCipher) :=
 (ZQ b (x.1,x.2) 20).bind λo=>(X8 b (o.1.1,o.1.2) ([0,1,2,3,5,9,o.2] : List Int)).bind λq=>(QA (wr (1 + q.2))).bind λi=>(ZQ b (q.1.1,q.1.2) 2).bind λe=>if e.2 == 0 then (some ((e.1.1,e.1.2),i)) else ((Wi b (e.1.1,e.1.2)).bind λh=>(Kz b (h.1.1,h.1.2)).bind λj=>(ZQ b (j.1.1,j.1.2) 4).bind λk=>(ZK (Jf b) (i.Mix,k.1.1,k.1.2,k.2)).bind λc=>((V1 h.2 c.1).bind λt=>if !t.2 then ((ZQ b (c.2.1,c.2.2) 256).bind λl=>some ((((((Vector.replicate 4 (Vector.replicate 4 (0 : UInt8))).setIfInBounds 0 ((Vector.replicate 4 (0 : UInt8)).setIfInBounds 0 1)).setIfInBounds 1 (((Vector.replicate 4 (0 : UInt8)).setIfInBounds 0 0).setIfInBounds 1 1)).setIfInBounds 2 ((((Vector.replicate 4 (0 : UInt8)).setIfInBounds 0 0).setIfInBounds 1 0).setIfInBounds 2 1)).setIfInBounds 3 (((((Vector.replicate 4 (0 : UInt8)).setIfInBounds 0 (Zz l.2)).setIfInBounds 1 0).setIfInBounds 2 0).setIfInBounds 3 1)),l.1.1,l.1.2)) else (some (c.1,c.2.1,c.2.2)) : Option (V44 × Int × Int)).bind λm=>(ZQ b (m.2.1,m.2.2) 16).bind λd=>(ZQ b (d.1.1,d.1.2) 16).bind λf=>(ZP i.Places d.2).bind λu=>(ZP i.Places f.2).bind λn=>(ZP i.Places d.2).bind λy=>(ZP (i.Places.setIfInBounds (d.2).toNat n) f.2).bind λz=>some ((f.1.1,f.1.2),(⟨h.2,j.2,m.1,(i.Places.setIfInBounds (d.2).toNat n).setIfInBounds (f.2).toNat u,i.Rounds⟩ : GCipher)))
theorem Zap (St : Nat → Prop) (W w0 : World) (r0 : Item) (f : Nat) (A : List UInt8) (b : Value) (n : Rep.sat St W A [b] []) (p0 : xr) (I : M St W w0 [raw f (cat [[b],[vI p0.1],[Value.int .u64 p0.2]]),r0]) (r : xr × GCipher) (hF : Ki A p0 = some r) :
  Calls prog 315 [ptr f 0].toArray w0 (e_r λv w'=>(v = (Value.agg (enc r.2).toArray) ∧ M St W w' [raw f (cat [[b],[vI r.1.1],[Value.int .u64 r.1.2]]),r0])):=by
 refine ce func315 ?_
 intro a H
 unfold Ki at hF
 refine Zb (Zx H I Wk λb1 w a I H=>Ze (Zb (Zd H R λa H=>Zd H R λa H=>?_)))
 have I:=M.tailP (m:=[_]) I.pl1
 obtain ⟨r3,e4,hF⟩:=p_1 hF
 refine Zn H R KT (ZU _ _ _ _ f A b n (p0.1,p0.2) 20 I r3 e4) ?_
 rintro v w a ⟨rfl,I⟩ H
 have I:=M.tailU (m:=[_]) I
 simp only [l_c,l_n] at I
 refine ZR (xs:=[.const (vI 0),.const (vI 1),.const (vI 2),.const (vI 3),.const (vI 5),.const (vI 9),.tmp 12]) (l:=([0,1,2,3,5,9,r3.2] : List Int)) (vs:=[vI 0,vI 1,vI 2,vI 3,vI 5,vI 9,vI r3.2]) H I Za ld R R s_4 ty2 R dd_ R λu5 w a I H=>?_
 have I:=M.tailP (m:=[_,_]) I.pl1
 obtain ⟨r7,e8,hF⟩:=p_1 hF
 refine Zn H R Zcp (UV _ _ _ _ f A b n (r3.1.1,r3.1.2) ([0,1,2,3,5,9,r3.2] : List Int) u5 I r7 e8) ?_
 rintro v w a ⟨rfl,I⟩ H
 have I:=M.tailU (m:=[_,_]) I
 simp only [l_c,l_n] at I
 refine Zm H R R R λa H=>?_
 obtain ⟨d,a1,hF⟩:=p_1 hF
 refine c_k H I R (cbm func192) (qk _ (wr (1 + r7.2)) d a1) λw a I H=>?_
 refine Zx H I Wk λY w a I H=>Zk (seg:=cat [[vI d.Field],enc d.Box,enc d.Mix,enc d.Places,[vI d.Rounds]]) (cs':=cat [[vI d.Field],enc d.Box,enc d.Mix,enc d.Places,[vI d.Rounds]]) H I Za R R R Wk cq (q_1 cq cq) (Z0 (cc1 (t_1 (d.Field : Int)) (cc1 (t_1 _) (cc1 (t_1 _) (cc1 (t_1 _) (cc1 (t_1 (d.Rounds : Int)) cc0)))))) (q_2 cq cq) λw a I H=>Ze (s_2 (Zb (Zd H R λa H=>?_)))
 have I:=M.tailP (m:=[_]) I.pl1
 obtain ⟨ak,a2,hF⟩:=p_1 hF
 refine Zn H R KT (ZU _ _ _ _ f A b n (r7.1.1,r7.1.2) 2 I ak a2) ?_
 rintro v w a ⟨rfl,I⟩ H
 have I:=M.tailU (m:=[_]) I
 simp only [l_c,l_n] at I
 refine Zm H R R R λa H=>Ze ?_
 refine c_if H R hF ?_ ?_
 ·intro ap hF
  refine Zb (Zu H R Wk R I.ra1 cq λa H=>?_)
  have I:=I.pl3
  refine Zk (seg:=cat [[vI d.Field],enc d.Box,enc d.Mix,enc d.Places,[vI d.Rounds]]) (cs':=cat [[vI d.Field],enc d.Box,enc d.Mix,enc d.Places,[vI d.Rounds]]) H I Za R R R Wk cq (q_1 cq cq) (Z0 (cc1 (t_1 (d.Field : Int)) (cc1 (t_1 _) (cc1 (t_1 _) (cc1 (t_1 _) (cc1 (t_1 (d.Rounds : Int)) cc0)))))) (q_2 cq cq) λw a I H=>Ze ?_
  obtain rfl:=o_1 hF
  have aq : Z8 prog _ _ (.cell 2 62) _:=ZH H R Wk R I.ra0 cq R
  have I:=(((I.pl4.pl2.pl4).drop.pl3).drop.pl2).drop
  exact u_2 (ZA (ZT H R aq ⟨_,R,R,I⟩))
 intro ap hF
 refine t_2 (Zw (Zb (Zd H R λa H=>?_)))
 have I:=M.tailP (m:=[_]) I
 obtain ⟨e,a3,hF⟩:=p_1 hF
 refine Zn H R Zn7 (KX _ _ _ _ f A b n (ak.1.1,ak.1.2) I e a3) ?_
 rintro v w a ⟨rfl,I⟩ H
 have I:=M.tailU (m:=[_]) I
 simp only [l_c,l_n] at I
 refine Zr H R (Bg) λa H=>?_
 have I:=I.pl1
 refine Zk (seg:=[vI e.2]) H I Za R R R ty2 R (Wl (pre:=[]) cl0 R) (t_1 (e.2 : Int)) (YL (pre:=[]) cl0 R) λw a I H=>Ze (Zb (Zd H R λa H=>?_))
 have I:=M.tailP (m:=[_]) I.pl1
 obtain ⟨h,a4,hF⟩:=p_1 hF
 refine Zn H R (cbm func331) (Zcl _ _ _ _ f A b n (e.1.1,e.1.2) I h a4) ?_
 rintro v w a ⟨rfl,I⟩ H
 have I:=M.tailU (m:=[_]) I
 simp only [l_c,l_n] at I
 refine Zr H R (HV) λa H=>?_
 have I:=I.pl1
 refine Zk (seg:=enc h.2) H I Za R R R Wg (u_1 _) (Wl (pre:=[[vI e.2]]) ck flq) (t_1 _) (YL (pre:=[[vI e.2]]) ck flq) λw a I H=>Ze (s_2 (Zb (Zd H R λa H=>?_)))
 have I:=M.tailP (m:=[_]) I.pl1
 obtain ⟨a5,a6,hF⟩:=p_1 hF
 refine Zn H R KT (ZU _ _ _ _ f A b n (h.1.1,h.1.2) 4 I a5 a6) ?_
 rintro v w a ⟨rfl,I⟩ H
 have I:=M.tailU (m:=[_]) I
 simp only [l_c,l_n] at I
 refine Zc H R λa H=>Ze ?_
 obtain ⟨ac,ar,au⟩:=p_1 hF
 refine ZX (λa w=>Env 82 a [(0,ptr f 0),(2,ptr b1 0),(3,ptr Y 0)] ∧ M St W w [raw f (cat [[b],[vI ac.2.1],[Value.int .u64 ac.2.2]]),raw Y (cat [[vI e.2],enc h.2,enc ac.1,enc d.Places,[vI d.Rounds]]),raw b1 xh,r0]) ?_ ?_
 ·refine p_2 ?_
  have I:=(I.pl4.pl4.pl3.pl3.pl4).drop
  refine ZN (λ(C : V44 × Int × Int × Int) a w=>Env 82 a [(0,ptr f 0),(2,ptr b1 0),(3,ptr Y 0),(4,vI C.2.2.2)] ∧ M St W w [raw f (cat [[b],[vI C.2.1],[Value.int .u64 C.2.2.1]]),raw Y (cat [[vI e.2],enc h.2,enc C.1,enc d.Places,[vI d.Rounds]]),raw b1 xh,r0]) ar ⟨H.s,I⟩ ?_
  rintro C a w ⟨H,I⟩ bj t av
  unfold Jf at t
  refine s_2 (Zb (Zd H R λa H=>Zm H R R R λa H=>Ze ?_))
  refine c_if H R t ?_ ?_
  ·intro aw t
   refine t_2 (Zw (s_2 (p_2 ?_)))
   obtain ⟨O,a7,t⟩:=p_1 t
   obtain ⟨K,a8,t⟩:=p_1 t
   obtain ⟨L,a9,t⟩:=p_1 t
   obtain ⟨ad,Z,t⟩:=bvx t
   refine Y0 (its:=[raw Y (cat [[vI e.2],enc h.2,enc C.1,enc d.Places,[vI d.Rounds]]),raw b1 xh,r0]) (mk:=([([1,3,5],λbs _=>(tog (bs.getD 0 false) (raw f (cat [[b],[vI C.2.1],[Value.int .u64 C.2.2.1]])) (tog (bs.getD 1 false) (raw f (cat [[b],[vI O.1.1],[Value.int .u64 O.1.2]])) (tog (bs.getD 2 false) (raw f (cat [[b],[vI K.1.1],[Value.int .u64 K.1.2]])) (raw f (cat [[b],[vI L.1.1],[Value.int .u64 L.1.2]]))))))] : Mk)) [33,34,35,36,37,38,39,40,41] YJ R R dd_ R H (λu=>M.qS (M.q0 I.drew u) λ_=>R) (q_m (λ_=>R) (qsV (v:=(vI O.2)) ?_ (q_m (λ_=>R) (qsV (v:=(vI K.2)) ?_ (q_m (λ_=>R) (qsV (v:=(vI L.2)) ?_ (qsP (λz=>Xq z.E Za ld R t_4 t_3 (kr0 R)) (qsP (λz=>Zo z.E Za ld R (Hm) (kr0 R)) (qsP (λz=>ZI z.E Za ld R R p_3 Xo Z.1 (kr0 R)) qs0))))))))) ?_
   ·intro a w ae D z
    have H:=z.E
    have hD : D 1 = false:=z.F
    have I:=z.M.togA (pre:=[_,_,_]) hD
    have hNx : D 3 = false:=Kb (j:=3) (k:=1) z.c R R R hD
    have I:=M.tailP (m:=[_]) I.pl3
    refine Zn H R KT (ZU _ _ _ _ f A b n (C.2.1,C.2.2.1) 4 I O a7) ?_
    rintro v w a ⟨rfl,I⟩ H
    have I:=M.tailU (m:=[_]) I
    simp only [l_c,l_n] at I
    exact ⟨_,R,H,M.qTogS (mk1:=[]) (mk2:=[]) I R (by show tog (XY D 1 1) (raw f (cat [[b],[vI C.2.1],[Value.int .u64 C.2.2.1]])) (tog (XY D 1 3) (raw f (cat [[b],[vI O.1.1],[Value.int .u64 O.1.2]])) (tog (XY D 1 5) (raw f (cat [[b],[vI K.1.1],[Value.int .u64 K.1.2]])) (raw f (cat [[b],[vI L.1.1],[Value.int .u64 L.1.2]])))) = _; rw [tg1 updS,tg0 (updN (i:=1) hNx dd_)])⟩
   ·intro a w ae D z
    have H:=z.E
    have hD : D 3 = false:=z.F
    have I:=z.M
    have af : D 1 = true:=z.p 1 _ R R
    have I:=(I.togB (pre:=[_,_,_]) af).togA (pre:=[_,_,_]) hD
    have hNx : D 5 = false:=Kb (j:=5) (k:=1) z.c R R R hD
    have I:=M.tailP (m:=[_]) I.pl3
    refine Zn H R KT (ZU _ _ _ _ f A b n (O.1.1,O.1.2) 4 I K a8) ?_
    rintro v w a ⟨rfl,I⟩ H
    have I:=M.tailU (m:=[_]) I
    simp only [l_c,l_n] at I
    exact ⟨_,R,H,M.qTogS (mk1:=[]) (mk2:=[]) I R (by show tog (XY D 3 1) (raw f (cat [[b],[vI C.2.1],[Value.int .u64 C.2.2.1]])) (tog (XY D 3 3) (raw f (cat [[b],[vI O.1.1],[Value.int .u64 O.1.2]])) (tog (XY D 3 5) (raw f (cat [[b],[vI K.1.1],[Value.int .u64 K.1.2]])) (raw f (cat [[b],[vI L.1.1],[Value.int .u64 L.1.2]])))) = _; rw [tg1 (updK af),tg1 updS,tg0 (updN (i:=3) hNx dd_)])⟩
   ·intro a w ae D z
    have H:=z.E
    have hD : D 5 = false:=z.F
    have I:=z.M
    have al : D 3 = true:=z.p 1 _ R R
    have af : D 1 = true:=z.c 3 _ _ R (List.mem_of_getElem? (i:=1) R) R al
    have I:=M.tailP (m:=[_]) ((((I.togB (pre:=[_,_,_]) af).togB (pre:=[_,_,_]) al).togA (pre:=[_,_,_]) hD).pl3)
    refine Zn H R KT (ZU _ _ _ _ f A b n (K.1.1,K.1.2) 256 I L a9) ?_
    rintro v w a ⟨rfl,I⟩ H
    have I:=M.tailU (m:=[_]) I
    simp only [l_c,l_n] at I
    exact ⟨_,R,H,M.qTogS (mk1:=[]) (mk2:=[]) I R (by show tog (XY D 5 1) (raw f (cat [[b],[vI C.2.1],[Value.int .u64 C.2.2.1]])) (tog (XY D 5 3) (raw f (cat [[b],[vI O.1.1],[Value.int .u64 O.1.2]])) (tog (XY D 5 5) (raw f (cat [[b],[vI K.1.1],[Value.int .u64 K.1.2]])) (raw f (cat [[b],[vI L.1.1],[Value.int .u64 L.1.2]])))) = _; rw [tg1 (updK af),tg1 (updK al),tg1 updS])⟩
   intro a w ae D H I hG ag
   have d1:=ag 1 dd_
   have d3:=ag 3 dd_
   have d5:=ag 5 dd_
   have I:=((I.togB (pre:=[_,_,_]) d1).togB (pre:=[_,_,_]) d3).togB (pre:=[_,_,_]) d5
   obtain ⟨bn,X,t⟩:=bvx t
   refine ZC H R R p_4 ty5 X.1 λa H=>Zk (seg:=[vB (Zz L.2)]) (cs':=cat [[vI e.2],enc h.2,enc (C.1.setIfInBounds (O.2).toNat (ad.setIfInBounds (K.2).toNat (Zz L.2))),enc d.Places,[vI d.Rounds]]) H I Za R R R ty5 R (QE (o':=(O.2).toNat * 4 + (0 + (K.2).toNat * 1)) (pre:=[[vI e.2],enc h.2]) (seg:=enc C.1) (post:=[enc d.Places,[vI d.Rounds]]) ck (WY (o':=0 + (K.2).toNat * 1) Z (ZS (v:=ad) (x:=Zz L.2) X.1) of_) of_) (t_1 (Zz L.2 : UInt8)) (Vh (o':=(O.2).toNat * 4 + (0 + (K.2).toNat * 1)) (pre:=[[vI e.2],enc h.2]) (seg:=enc C.1) (post:=[enc d.Places,[vI d.Rounds]]) ck (WY (o':=0 + (K.2).toNat * 1) Z (ZS (v:=ad) (x:=Zz L.2) X.1) of_) (X5 (o':=0 + (K.2).toNat * 1) Z (ZS (v:=ad) (x:=Zz L.2) X.1) (ZF (v:=ad) (x:=Zz L.2) X.1) of_) of_) λw a I H=>Zf (Yn (Zw (s_1 (Zd H R λa H=>Zm H R R R λa H=>Zc H R λa H=>Zf (Zi ?_)))))
   have I:=I.pl2.pl2.pl2.pl3
   exact ⟨_,ois t,H.s,I⟩
  intro aw t
  refine s_3 (Zp (Zp (Yv ?_)))
  obtain rfl:=av _ (ois t)
  refine Zi ?_
  exact ⟨H.s,I⟩
 rintro a w ⟨H,I⟩
 refine Zw ?_
 obtain ⟨o,T,B⟩:=p_1 au
 refine ZG (λa w=>Env 82 a [(0,ptr f 0),(2,ptr b1 0),(3,ptr Y 0)] ∧ M St W w [raw f (cat [[b],[vI o.2.1],[Value.int .u64 o.2.2]]),raw Y (cat [[vI e.2],enc h.2,enc o.1,enc d.Places,[vI d.Rounds]]),raw b1 xh,r0]) ?_ ?_
 ·refine Zb (Zr H R (Bg) λa H=>ZO (v:=(vI e.2)) H R ty2 R (at_0 I.ra1) λa H=>Zr H R (Hm) λa H=>Zu H R Ve R (at_2 I.ra1) (u_1 _) λa H=>?_)
  obtain ⟨ax,ba,T⟩:=p_1 T
  refine c_k H I R (cbm func279) (Bw _ e.2 ac.1 ax ba) λw a I H=>?_
  refine Zd H R λa H=>ZM H Za ld R R λa H=>ZM H Za ld R R λa H=>Zx H I Ve λbo w a I H=>s_w ax.1 H I Za R R R Ve λw a I H=>Zc H R λa H=>Ze (Zb (Zd H R λa H=>Qe H R λa H=>Ze ?_))
  refine c_if H R T ?_ ?_
  ·intro ay T
   refine s_1 (Xi (parts:=[(0,.const (vB 1))]) (vs:=[(0,vB 1)]) (cs:=enc (xg.setIfInBounds 0 1)) H Za ld R R Xo R ty5 (Xj (v:=xg) (x:=1) R dd_ R YK) λa H=>Xi (parts:=[(0,.const (vB 0)),(1,.const (vB 1))]) (vs:=[(0,vB 0),(1,vB 1)]) (cs:=enc ((xg.setIfInBounds 0 0).setIfInBounds 1 1)) H Za ld R R Xo R ty5 (Xj (v:=xg) (x:=0) R dd_ R (Xj (v:=(xg.setIfInBounds 0 0)) (x:=1) R dd_ R YK)) λa H=>Xi (parts:=[(0,.const (vB 0)),(1,.const (vB 0)),(2,.const (vB 1))]) (vs:=[(0,vB 0),(1,vB 0),(2,vB 1)]) (cs:=enc (((xg.setIfInBounds 0 0).setIfInBounds 1 0).setIfInBounds 2 1)) H Za ld R R Xo R ty5 (Xj (v:=xg) (x:=0) R dd_ R (Xj (v:=(xg.setIfInBounds 0 0)) (x:=0) R dd_ R (Xj (v:=((xg.setIfInBounds 0 0).setIfInBounds 1 0)) (x:=1) R dd_ R YK))) λa H=>Zd H R λa H=>?_)
   have I:=M.tailP (m:=[_]) I.pl1
   obtain ⟨U,bb,T⟩:=p_1 T
   refine Zn H R KT (ZU _ _ _ _ f A b n (ac.2.1,ac.2.2) 256 I U bb) ?_
   rintro v w a ⟨rfl,I⟩ H
   have I:=M.tailU (m:=[_]) I
   simp only [l_c,l_n] at I
   refine Xq H Za ld R t_4 t_3 λa H=>Xi (parts:=[(0,.tmp 58),(1,.const (vB 0)),(2,.const (vB 0)),(3,.const (vB 1))]) (vs:=[(0,vB (Zz U.2)),(1,vB 0),(2,vB 0),(3,vB 1)]) (cs:=enc ((((xg.setIfInBounds 0 (Zz U.2)).setIfInBounds 1 0).setIfInBounds 2 0).setIfInBounds 3 1)) H Za ld R R Xo R ty5 (Xj (v:=xg) (x:=Zz U.2) R dd_ R (Xj (v:=(xg.setIfInBounds 0 (Zz U.2))) (x:=0) R dd_ R (Xj (v:=((xg.setIfInBounds 0 (Zz U.2)).setIfInBounds 1 0)) (x:=0) R dd_ R (Xj (v:=(((xg.setIfInBounds 0 (Zz U.2)).setIfInBounds 1 0).setIfInBounds 2 0)) (x:=1) R dd_ R YK)))) λa H=>Xi (parts:=[(0,.tmp 53),(1,.tmp 54),(2,.tmp 55),(3,.tmp 59)]) (vs:=[(0,Value.agg (enc (xg.setIfInBounds 0 1)).toArray),(1,Value.agg (enc ((xg.setIfInBounds 0 0).setIfInBounds 1 1)).toArray),(2,Value.agg (enc (((xg.setIfInBounds 0 0).setIfInBounds 1 0).setIfInBounds 2 1)).toArray),(3,Value.agg (enc ((((xg.setIfInBounds 0 (Zz U.2)).setIfInBounds 1 0).setIfInBounds 2 0).setIfInBounds 3 1)).toArray)]) (cs:=enc ((((xc.setIfInBounds 0 (xg.setIfInBounds 0 1)).setIfInBounds 1 ((xg.setIfInBounds 0 0).setIfInBounds 1 1)).setIfInBounds 2 (((xg.setIfInBounds 0 0).setIfInBounds 1 0).setIfInBounds 2 1)).setIfInBounds 3 ((((xg.setIfInBounds 0 (Zz U.2)).setIfInBounds 1 0).setIfInBounds 2 0).setIfInBounds 3 1))) H Za ld R R Ve R Xo (Xj (v:=xc) (x:=(xg.setIfInBounds 0 1)) R dd_ R (Xj (v:=(xc.setIfInBounds 0 (xg.setIfInBounds 0 1))) (x:=((xg.setIfInBounds 0 0).setIfInBounds 1 1)) R dd_ R (Xj (v:=((xc.setIfInBounds 0 (xg.setIfInBounds 0 1)).setIfInBounds 1 ((xg.setIfInBounds 0 0).setIfInBounds 1 1))) (x:=(((xg.setIfInBounds 0 0).setIfInBounds 1 0).setIfInBounds 2 1)) R dd_ R (Xj (v:=(((xc.setIfInBounds 0 (xg.setIfInBounds 0 1)).setIfInBounds 1 ((xg.setIfInBounds 0 0).setIfInBounds 1 1)).setIfInBounds 2 (((xg.setIfInBounds 0 0).setIfInBounds 1 0).setIfInBounds 2 1))) (x:=((((xg.setIfInBounds 0 (Zz U.2)).setIfInBounds 1 0).setIfInBounds 2 0).setIfInBounds 3 1)) R dd_ R YK)))) λa H=>Zr H R (Hm) λa H=>?_
   have I:=I.pl2
   refine Zk (seg:=enc ((((xc.setIfInBounds 0 (xg.setIfInBounds 0 1)).setIfInBounds 1 ((xg.setIfInBounds 0 0).setIfInBounds 1 1)).setIfInBounds 2 (((xg.setIfInBounds 0 0).setIfInBounds 1 0).setIfInBounds 2 1)).setIfInBounds 3 ((((xg.setIfInBounds 0 (Zz U.2)).setIfInBounds 1 0).setIfInBounds 2 0).setIfInBounds 3 1))) H I Za R R R Ve (u_1 _) (Wl (pre:=[[vI e.2],enc h.2]) ck flq) (t_1 _) (YL (pre:=[[vI e.2],enc h.2]) ck flq) λw a I H=>Zf ?_
   obtain rfl:=o_1 T
   refine Zi ?_
   have I:=(I.pl4.pl4.pl2.pl3.pl4).drop
   exact ⟨H.s,I⟩
  intro ay T
  refine t_2 ?_
  obtain rfl:=o_1 T
  refine Zi ?_
  have I:=(I.pl4.pl4.pl4.pl4.pl4).drop
  exact ⟨H.s,I⟩
 rintro a w ⟨H,I⟩
 refine Zb (Zd H R λa H=>?_)
 have I:=M.tailP (m:=[_]) I
 obtain ⟨y,bc,B⟩:=p_1 B
 refine Zn H R KT (ZU _ _ _ _ f A b n (o.2.1,o.2.2) 16 I y bc) ?_
 rintro v w a ⟨rfl,I⟩ H
 have I:=M.tailU (m:=[_]) I
 simp only [l_c,l_n] at I
 refine Zd H R λa H=>?_
 have I:=M.tailP (m:=[_]) I
 obtain ⟨N,bd,B⟩:=p_1 B
 refine Zn H R KT (ZU _ _ _ _ f A b n (y.1.1,y.1.2) 16 I N bd) ?_
 rintro v w a ⟨rfl,I⟩ H
 have I:=M.tailU (m:=[_]) I
 simp only [l_c,l_n] at I
 refine Zc H R λa H=>Zc H R λa H=>Ze (Zb (Zd H R λa H=>Zr H R (JC) λa H=>?_))
 obtain ⟨G,ah,B⟩:=bvx B
 refine ZC H R R u_5 ty5 ah.1 λa H=>ZO (v:=(vB G)) H R ty5 R (At.vec (at_3 I.ra1) ah.2) λa H=>Zc H R λa H=>Ze (Zb (Zd H R λa H=>Zd H R λa H=>Zr H R (JC) λa H=>?_))
 obtain ⟨q,ai,B⟩:=bvx B
 refine ZC H R R u_5 ty5 ai.1 λa H=>ZO (v:=(vB q)) H R ty5 R (At.vec (at_3 I.ra1) ai.2) λa H=>Zr H R (JC) λa H=>?_
 obtain ⟨bp,aa,B⟩:=bvx B
 refine ZC H R R u_5 ty5 aa.1 λa H=>?_
 have I:=I.pl1
 refine Zk (seg:=[vB q]) (cs':=cat [[vI e.2],enc h.2,enc o.1,enc (d.Places.setIfInBounds (y.2).toNat q),[vI d.Rounds]]) H I Za R R R ty5 R (QE (o':=0 + (y.2).toNat * 1) (pre:=[[vI e.2],enc h.2,enc o.1]) (seg:=enc d.Places) (post:=[[vI d.Rounds]]) ck (ZS (v:=d.Places) (x:=q) aa.1) of_) (t_1 (q : UInt8)) (Vh (o':=0 + (y.2).toNat * 1) (pre:=[[vI e.2],enc h.2,enc o.1]) (seg:=enc d.Places) (post:=[[vI d.Rounds]]) ck (ZS (v:=d.Places) (x:=q) aa.1) (ZF (v:=d.Places) (x:=q) aa.1) of_) λw a I H=>Ze (Zb (Zd H R λa H=>Zd H R λa H=>Zr H R (JC) λa H=>?_))
 obtain ⟨bq,ab,B⟩:=bvx B
 refine ZC H R R u_5 ty5 ab.1 λa H=>Zk (seg:=[vB G]) (cs':=cat [[vI e.2],enc h.2,enc o.1,enc ((d.Places.setIfInBounds (y.2).toNat q).setIfInBounds (N.2).toNat G),[vI d.Rounds]]) H I Za R R R ty5 R (QE (o':=0 + (N.2).toNat * 1) (pre:=[[vI e.2],enc h.2,enc o.1]) (seg:=enc (d.Places.setIfInBounds (y.2).toNat q)) (post:=[[vI d.Rounds]]) ck (ZS (v:=(d.Places.setIfInBounds (y.2).toNat q)) (x:=G) ab.1) of_) (t_1 (G : UInt8)) (Vh (o':=0 + (N.2).toNat * 1) (pre:=[[vI e.2],enc h.2,enc o.1]) (seg:=enc (d.Places.setIfInBounds (y.2).toNat q)) (post:=[[vI d.Rounds]]) ck (ZS (v:=(d.Places.setIfInBounds (y.2).toNat q)) (x:=G) ab.1) (ZF (v:=(d.Places.setIfInBounds (y.2).toNat q)) (x:=G) ab.1) of_) λw a I H=>Ze (Zb (Zu H R Wk R I.ra0 cq λa H=>?_))
 have I:=I.pl2
 refine Zk (seg:=cat [[vI ((⟨e.2,h.2,o.1,((d.Places.setIfInBounds (y.2).toNat q).setIfInBounds (N.2).toNat G),d.Rounds⟩ : GCipher).Field)],enc ((⟨e.2,h.2,o.1,(d.Places.setIfInBounds (y.2).toNat q).setIfInBounds (N.2).toNat G,d.Rounds⟩ : GCipher).Box),enc ((⟨e.2,h.2,o.1,(d.Places.setIfInBounds (y.2).toNat q).setIfInBounds (N.2).toNat G,d.Rounds⟩ : GCipher).Mix),enc ((⟨e.2,h.2,o.1,(d.Places.setIfInBounds (y.2).toNat q).setIfInBounds (N.2).toNat G,d.Rounds⟩ : GCipher).Places),[vI ((⟨e.2,h.2,o.1,((d.Places.setIfInBounds (y.2).toNat q).setIfInBounds (N.2).toNat G),d.Rounds⟩ : GCipher).Rounds)]]) (cs':=cat [[vI ((⟨e.2,h.2,o.1,((d.Places.setIfInBounds (y.2).toNat q).setIfInBounds (N.2).toNat G),d.Rounds⟩ : GCipher).Field)],enc ((⟨e.2,h.2,o.1,(d.Places.setIfInBounds (y.2).toNat q).setIfInBounds (N.2).toNat G,d.Rounds⟩ : GCipher).Box),enc ((⟨e.2,h.2,o.1,(d.Places.setIfInBounds (y.2).toNat q).setIfInBounds (N.2).toNat G,d.Rounds⟩ : GCipher).Mix),enc ((⟨e.2,h.2,o.1,(d.Places.setIfInBounds (y.2).toNat q).setIfInBounds (N.2).toNat G,d.Rounds⟩ : GCipher).Places),[vI ((⟨e.2,h.2,o.1,((d.Places.setIfInBounds (y.2).toNat q).setIfInBounds (N.2).toNat G),d.Rounds⟩ : GCipher).Rounds)]]) H I Za R R R Wk cq (q_1 cq cq) (Z0 (cc1 (t_1 ((⟨e.2,h.2,o.1,(d.Places.setIfInBounds (y.2).toNat q).setIfInBounds (N.2).toNat G,d.Rounds⟩ : GCipher).Field : Int)) (cc1 (t_1 _) (cc1 (t_1 _) (cc1 (t_1 _) (cc1 (t_1 ((⟨e.2,h.2,o.1,(d.Places.setIfInBounds (y.2).toNat q).setIfInBounds (N.2).toNat G,d.Rounds⟩ : GCipher).Rounds : Int)) cc0)))))) (q_2 cq cq) λw a I H=>Ze ?_
 obtain rfl:=o_1 B
 have az : Z8 prog _ _ (.cell 2 62) _:=ZH H R Wk R I.ra0 cq R
 have I:=((I.pl3.pl3.pl3).drop.pl2).drop
 exact u_2 (ZT H R az ⟨_,R,R,I⟩)
def QG (b : List UInt8) (d : (Int × Int)) (e : List UInt8) : Option ((Int × Int) × UInt8) :=
 (ZQ b (d.1,d.2) (e.length : Int)).bind λc=>(idx e c.2).bind λf=>some ((c.1.1,c.1.2),f)
theorem qu (St : Nat → Prop) (W k : World) (l : Item) (d : Nat) (c : List UInt8) (b : Value) (e : Rep.sat St W c [b] []) (f : xr) (i : List UInt8) (j : Value) (I : M St W k [raw d (cat [[b],[vI f.1],[Value.int .u64 f.2]]),osl NoB i j,l]) (r : xr × UInt8) (hF : QG c f i = some r) :
  Calls prog 316 [ptr d 0,j].toArray k (e_r λv w'=>(v = (vB r.2) ∧ M St W w' [raw d (cat [[b],[vI r.1.1],[Value.int .u64 r.1.2]]),osl NoB i j,l])):=by
 refine ce func316 ?_
 intro a H
 unfold QG at hF
 refine Zb (Zc H R λa H=>Ze (Zb (Zd H R λa H=>Zd H R λa H=>Zd H R λa H=>Yp H R o_2 (I.sl1) λa H=>?_)))
 have I:=M.tailP (m:=[_]) I
 obtain ⟨n,o,hF⟩:=p_1 hF
 refine Zn H R KT (ZU _ _ _ _ d c b e (f.1,f.2) (i.length : Int) I n o) ?_
 rintro v w a ⟨rfl,I⟩ H
 have I:=M.tailU (m:=[_]) I
 simp only [l_c,l_n] at I
 obtain ⟨q,h,hF⟩:=bix hF
 refine Ys H R R o_2 ty5 (I.sl1) h.1 λa H=>ZO (v:=(vB q)) H R ty5 R (Xx (I.sl1) h.2) λa H=>Zc H R λa H=>Ze ?_
 obtain rfl:=o_1 hF
 exact u_2 (ZT H R (Zy H R) ⟨_,R,R,I⟩)
def Qy (d : List UInt8) (n : (Int × Int)) : Option ((Int × Int) × GCipher) :=
 (Ki d (n.1,n.2)).bind λb=>((ZQ d (b.1.1,b.1.2) 24).bind λc=>(if c.2 == 0 then ((X8 d (c.1.1,c.1.2) ([256,511,0,512] : List Int)).bind λh=>some (h.2,b.2.Box,b.2.Mix,b.2.Places,b.2.Rounds,h.1.1,h.1.2)) else (if c.2 == 1 then ((ZP b.2.Box (1 : Int)).bind λk=>(ZP b.2.Box (0 : Int)).bind λo=>some (b.2.Field,b.2.Box.setIfInBounds ((0 : Int)).toNat k,b.2.Mix,b.2.Places,b.2.Rounds,c.1.1,c.1.2)) else (if c.2 == 2 then ((ZP b.2.Mix (1 : Int)).bind λl=>(ZP b.2.Mix (0 : Int)).bind λq=>some (b.2.Field,b.2.Box,b.2.Mix.setIfInBounds ((0 : Int)).toNat l,b.2.Places,b.2.Rounds,c.1.1,c.1.2)) else (if c.2 == 3 then ((QG d (c.1.1,c.1.2) ([16,1,255] : List UInt8)).bind λf=>(ZP b.2.Places (0 : Int)).bind λt=>(ZP (b.2.Places.setIfInBounds ((0 : Int)).toNat f.2) (0 : Int)).bind λm=>(ZP (b.2.Places.setIfInBounds ((0 : Int)).toNat f.2) (1 : Int)).bind λu=>some (b.2.Field,b.2.Box,b.2.Mix,(b.2.Places.setIfInBounds ((0 : Int)).toNat f.2).setIfInBounds ((1 : Int)).toNat m,b.2.Rounds,f.1.1,f.1.2)) else (if c.2 == 4 then ((X8 d (c.1.1,c.1.2) ([0,21,-1] : List Int)).bind λi=>some (b.2.Field,b.2.Box,b.2.Mix,b.2.Places,i.2,i.1.1,i.1.2)) else (some (b.2.Field,b.2.Box,b.2.Mix,b.2.Places,b.2.Rounds,c.1.1,c.1.2)))))) : Option (Int × V256 × V44 × V16 × Int × Int × Int)).bind λe=>some (e.1,e.2.1,e.2.2.1,e.2.2.2.1,e.2.2.2.2.1,e.2.2.2.2.2.1,e.2.2.2.2.2.2) : Option (Int × V256 × V44 × V16 × Int × Int × Int)).bind λj=>some ((j.2.2.2.2.2.1,j.2.2.2.2.2.2),(⟨j.1,j.2.1,j.2.2.1,j.2.2.2.1,j.2.2.2.2.1⟩ : GCipher))
theorem qB (St : Nat → Prop) (W w0 : World) (r0 : Item) (j : Nat) (h : List UInt8) (e : Value) (i : Rep.sat St W h [e] []) (L : xr) (I : M St W w0 [raw j (cat [[e],[vI L.1],[Value.int .u64 L.2]]),r0]) (r : xr × GCipher) (hF : Qy h L = some r) :
  Calls prog 269 [ptr j 0].toArray w0 (e_r λv w'=>(v = (Value.agg (enc r.2).toArray) ∧ M St W w' [raw j (cat [[e],[vI r.1.1],[Value.int .u64 r.1.2]]),r0])):=by
 refine ce func269 ?_
 intro a H
 unfold Qy at hF
 refine Zb (Zx H I Wk λb1 w a I H=>Ze (Zb (Zd H R λa H=>?_)))
 have I:=M.tailP (m:=[_]) I.pl1
 obtain ⟨c,e4,hF⟩:=p_1 hF
 refine Zn H R (cbm func315) (Zap _ _ _ _ j h e i (L.1,L.2) I c e4) ?_
 rintro v w a ⟨rfl,I⟩ H
 have I:=M.tailU (m:=[_]) I
 simp only [l_c,l_n] at I
 refine Zx H I Wk λb5 w a I H=>Zk (seg:=cat [[vI c.2.Field],enc c.2.Box,enc c.2.Mix,enc c.2.Places,[vI c.2.Rounds]]) (cs':=cat [[vI c.2.Field],enc c.2.Box,enc c.2.Mix,enc c.2.Places,[vI c.2.Rounds]]) H I Za R R R Wk cq (q_1 cq cq) (Z0 (cc1 (t_1 (c.2.Field : Int)) (cc1 (t_1 _) (cc1 (t_1 _) (cc1 (t_1 _) (cc1 (t_1 (c.2.Rounds : Int)) cc0)))))) (q_2 cq cq) λw a I H=>Ze ?_
 obtain ⟨d,F,ad⟩:=p_1 hF
 refine ZG (λa w=>Env 47 a [(2,ptr b1 0),(3,ptr b5 0)] ∧ M St W w [raw b5 (cat [[vI d.1],enc d.2.1,enc d.2.2.1,enc d.2.2.2.1,[vI d.2.2.2.2.1]]),raw j (cat [[e],[vI d.2.2.2.2.2.1],[Value.int .u64 d.2.2.2.2.2.2]]),raw b1 xh,r0]) ?_ ?_
 ·refine Zb (Zd H R λa H=>?_)
  have I:=M.tailP (m:=[_]) I.pl1
  obtain ⟨k,ae,F⟩:=p_1 F
  refine Zn H R KT (ZU _ _ _ _ j h e i (c.1.1,c.1.2) 24 I k ae) ?_
  rintro v w a ⟨rfl,I⟩ H
  have I:=M.tailU (m:=[_]) I
  simp only [l_c,l_n] at I
  refine Ze (p_2 (Zb (Zm H R R R λa H=>Zc H R λa H=>Ze ?_)))
  obtain ⟨n,b,N⟩:=p_1 F
  refine ZX (λa w=>Env 47 a [(2,ptr b1 0),(3,ptr b5 0)] ∧ M St W w [raw j (cat [[e],[vI n.2.2.2.2.2.1],[Value.int .u64 n.2.2.2.2.2.2]]),raw b5 (cat [[vI n.1],enc n.2.1,enc n.2.2.1,enc n.2.2.2.1,[vI n.2.2.2.2.1]]),raw b1 xh,r0]) ?_ ?_
  ·refine c_if H R b ?_ ?_
   ·intro O b
    refine s_1 (Zd H R λa H=>ZR (xs:=[.const (vI 256),.const (vI 511),.const (vI 0),.const (vI 512)]) (l:=([256,511,0,512] : List Int)) (vs:=[vI 256,vI 511,vI 0,vI 512]) H I Za ld R R s_4 ty2 R dd_ R λaf w a I H=>?_)
    have I:=M.tailP (m:=[_,_]) I.pl1
    obtain ⟨G,ag,b⟩:=p_1 b
    refine Zn H R Zcp (UV _ _ _ _ j h e i (k.1.1,k.1.2) ([256,511,0,512] : List Int) af I G ag) ?_
    rintro v w a ⟨rfl,I⟩ H
    have I:=M.tailU (m:=[_,_]) I
    simp only [l_c,l_n] at I
    refine Zr H R (Bg) λa H=>?_
    have I:=I.pl2
    refine Zk (seg:=[vI G.2]) H I Za R R R ty2 R (Wl (pre:=[]) cl0 R) (t_1 (G.2 : Int)) (YL (pre:=[]) cl0 R) λw a I H=>Zf ?_
    obtain rfl:=o_1 b
    refine Zi ?_
    have I:=(I.pl4.pl4.pl2.pl3.pl4).drop
    exact ⟨H.s,I⟩
   intro O b
   refine Zb (Zm H R R R λa H=>Zc H R λa H=>Ze ?_)
   refine c_if H R b ?_ ?_
   ·intro T b
    refine s_1 (Zr H R (HV) λa H=>?_)
    obtain ⟨o,B,b⟩:=bvx b
    refine ZC H R R u_4 ty5 B.1 λa H=>ZO (v:=(vB o)) H R ty5 R (At.vec (at_1 I.ra1) B.2) λa H=>Zr H R (HV) λa H=>?_
    obtain ⟨an,t,b⟩:=bvx b
    refine ZC H R R u_4 ty5 t.1 λa H=>?_
    have I:=I.pl1
    refine Zk (seg:=[vB o]) (cs':=cat [[vI c.2.Field],enc (c.2.Box.setIfInBounds ((0 : Int)).toNat o),enc c.2.Mix,enc c.2.Places,[vI c.2.Rounds]]) H I Za R R R ty5 R (QE (o':=0 + ((0 : Int)).toNat * 1) (pre:=[[vI c.2.Field]]) (seg:=enc c.2.Box) (post:=[enc c.2.Mix,enc c.2.Places,[vI c.2.Rounds]]) ck (ZS (v:=c.2.Box) (x:=o) t.1) of_) (t_1 (o : UInt8)) (Vh (o':=0 + ((0 : Int)).toNat * 1) (pre:=[[vI c.2.Field]]) (seg:=enc c.2.Box) (post:=[enc c.2.Mix,enc c.2.Places,[vI c.2.Rounds]]) ck (ZS (v:=c.2.Box) (x:=o) t.1) (ZF (v:=c.2.Box) (x:=o) t.1) of_) λw a I H=>Zf ?_
    obtain rfl:=o_1 b
    refine Zi ?_
    have I:=I.pl3.pl3.pl2.pl3
    exact ⟨H.s,I⟩
   intro T b
   refine Zb (Zm H R R R λa H=>Zc H R λa H=>Ze ?_)
   refine c_if H R b ?_ ?_
   ·intro U b
    refine s_1 (Zr H R (Hm) λa H=>?_)
    obtain ⟨A,C,b⟩:=bvx b
    refine ZC H R R p_3 Xo C.1 λa H=>Zu H R Xo R (At.vec (at_2 I.ra1) C.2) (u_1 _) λa H=>Zr H R (Hm) λa H=>?_
    obtain ⟨ao,u,b⟩:=bvx b
    refine ZC H R R p_3 Xo u.1 λa H=>?_
    have I:=I.pl1
    refine Zk (seg:=enc A) (cs':=cat [[vI c.2.Field],enc c.2.Box,enc (c.2.Mix.setIfInBounds ((0 : Int)).toNat A),enc c.2.Places,[vI c.2.Rounds]]) H I Za R R R Xo (u_1 _) (QE (o':=0 + ((0 : Int)).toNat * 4) (pre:=[[vI c.2.Field],enc c.2.Box]) (seg:=enc c.2.Mix) (post:=[enc c.2.Places,[vI c.2.Rounds]]) ck (ZS (v:=c.2.Mix) (x:=A) u.1) of_) (t_1 _) (Vh (o':=0 + ((0 : Int)).toNat * 4) (pre:=[[vI c.2.Field],enc c.2.Box]) (seg:=enc c.2.Mix) (post:=[enc c.2.Places,[vI c.2.Rounds]]) ck (ZS (v:=c.2.Mix) (x:=A) u.1) (ZF (v:=c.2.Mix) (x:=A) u.1) of_) λw a I H=>Zf ?_
    obtain rfl:=o_1 b
    refine Zi ?_
    have I:=I.pl3.pl3.pl2.pl3
    exact ⟨H.s,I⟩
   intro U b
   refine Zb (Zm H R R R λa H=>Zc H R λa H=>Ze ?_)
   refine c_if H R b ?_ ?_
   ·intro X b
    refine Zb (Zd H R λa H=>ZR (xs:=[.const (vB 16),.const (vB 1),.const (vB 255)]) (l:=([16,1,255] : List UInt8)) (vs:=[vB 16,vB 1,vB 255]) H I Za ld R R o_2 ty5 R dd_ R λah w a I H=>?_)
    have I:=M.tailP (m:=[_,_]) I.pl1
    obtain ⟨f,ai,b⟩:=p_1 b
    refine Zn H R (cbm func316) (qu _ _ _ _ j h e i (k.1.1,k.1.2) ([16,1,255] : List UInt8) ah I f ai) ?_
    rintro v w a ⟨rfl,I⟩ H
    have I:=M.tailU (m:=[_,_]) I
    simp only [l_c,l_n] at I
    refine Zr H R (JC) λa H=>?_
    obtain ⟨ap,y,b⟩:=bvx b
    refine ZC H R R u_5 ty5 y.1 λa H=>?_
    have I:=I.pl2
    refine Zk (seg:=[vB f.2]) (cs':=cat [[vI c.2.Field],enc c.2.Box,enc c.2.Mix,enc (c.2.Places.setIfInBounds ((0 : Int)).toNat f.2),[vI c.2.Rounds]]) H I Za R R R ty5 R (QE (o':=0 + ((0 : Int)).toNat * 1) (pre:=[[vI c.2.Field],enc c.2.Box,enc c.2.Mix]) (seg:=enc c.2.Places) (post:=[[vI c.2.Rounds]]) ck (ZS (v:=c.2.Places) (x:=f.2) y.1) of_) (t_1 (f.2 : UInt8)) (Vh (o':=0 + ((0 : Int)).toNat * 1) (pre:=[[vI c.2.Field],enc c.2.Box,enc c.2.Mix]) (seg:=enc c.2.Places) (post:=[[vI c.2.Rounds]]) ck (ZS (v:=c.2.Places) (x:=f.2) y.1) (ZF (v:=c.2.Places) (x:=f.2) y.1) of_) λw a I H=>Ze (s_1 (Zr H R (JC) λa H=>?_))
    obtain ⟨q,E,b⟩:=bvx b
    refine ZC H R R u_5 ty5 E.1 λa H=>ZO (v:=(vB q)) H R ty5 R (At.vec (at_3 I.ra0) E.2) λa H=>Zr H R (JC) λa H=>?_
    obtain ⟨aq,z,b⟩:=bvx b
    refine ZC H R R u_5 ty5 z.1 λa H=>Zk (seg:=[vB q]) (cs':=cat [[vI c.2.Field],enc c.2.Box,enc c.2.Mix,enc ((c.2.Places.setIfInBounds ((0 : Int)).toNat f.2).setIfInBounds ((1 : Int)).toNat q),[vI c.2.Rounds]]) H I Za R R R ty5 R (QE (o':=0 + ((1 : Int)).toNat * 1) (pre:=[[vI c.2.Field],enc c.2.Box,enc c.2.Mix]) (seg:=enc (c.2.Places.setIfInBounds ((0 : Int)).toNat f.2)) (post:=[[vI c.2.Rounds]]) ck (ZS (v:=(c.2.Places.setIfInBounds ((0 : Int)).toNat f.2)) (x:=q) z.1) of_) (t_1 (q : UInt8)) (Vh (o':=0 + ((1 : Int)).toNat * 1) (pre:=[[vI c.2.Field],enc c.2.Box,enc c.2.Mix]) (seg:=enc (c.2.Places.setIfInBounds ((0 : Int)).toNat f.2)) (post:=[[vI c.2.Rounds]]) ck (ZS (v:=(c.2.Places.setIfInBounds ((0 : Int)).toNat f.2)) (x:=q) z.1) (ZF (v:=(c.2.Places.setIfInBounds ((0 : Int)).toNat f.2)) (x:=q) z.1) of_) λw a I H=>Zf ?_
    obtain rfl:=o_1 b
    refine Zi ?_
    have I:=(I.pl4.pl4.pl2.pl3.pl4).drop
    exact ⟨H.s,I⟩
   intro X b
   refine Zb (Zm H R R R λa H=>Zc H R λa H=>Ze ?_)
   refine c_if H R b ?_ ?_
   ·intro Y b
    refine s_1 (Zd H R λa H=>ZR (xs:=[.const (vI 0),.const (vI 21),.const (vI (-1))]) (l:=([0,21,-1] : List Int)) (vs:=[vI 0,vI 21,vI (-1)]) H I Za ld R R s_4 ty2 R dd_ R λaj w a I H=>?_)
    have I:=M.tailP (m:=[_,_]) I.pl1
    obtain ⟨K,ak,b⟩:=p_1 b
    refine Zn H R Zcp (UV _ _ _ _ j h e i (k.1.1,k.1.2) ([0,21,-1] : List Int) aj I K ak) ?_
    rintro v w a ⟨rfl,I⟩ H
    have I:=M.tailU (m:=[_,_]) I
    simp only [l_c,l_n] at I
    refine Zr H R (jY) λa H=>?_
    have I:=I.pl2
    refine Zk (seg:=[vI K.2]) H I Za R R R ty2 R (Wl (pre:=[[vI c.2.Field],enc c.2.Box,enc c.2.Mix,enc c.2.Places]) ck R) (t_1 (K.2 : Int)) (YL (pre:=[[vI c.2.Field],enc c.2.Box,enc c.2.Mix,enc c.2.Places]) ck R) λw a I H=>Zf ?_
    obtain rfl:=o_1 b
    refine Zi ?_
    have I:=(I.pl4.pl4.pl2.pl3.pl4).drop
    exact ⟨H.s,I⟩
   intro Y b
   refine t_2 ?_
   obtain rfl:=o_1 b
   refine Zi ?_
   exact ⟨H.s,I⟩
  rintro a w ⟨H,I⟩
  refine Yn ?_
  obtain rfl:=o_1 N
  refine Zi ?_
  have I:=I.pl3.pl3.pl2.pl3
  exact ⟨H.s,I⟩
 rintro a w ⟨H,I⟩
 refine Zb (Zu H R Wk R I.ra0 cq λa H=>?_)
 have I:=I.pl2
 refine Zk (seg:=cat [[vI ((⟨d.1,d.2.1,d.2.2.1,d.2.2.2.1,d.2.2.2.2.1⟩ : GCipher).Field)],enc ((⟨d.1,d.2.1,d.2.2.1,d.2.2.2.1,d.2.2.2.2.1⟩ : GCipher).Box),enc ((⟨d.1,d.2.1,d.2.2.1,d.2.2.2.1,d.2.2.2.2.1⟩ : GCipher).Mix),enc ((⟨d.1,d.2.1,d.2.2.1,d.2.2.2.1,d.2.2.2.2.1⟩ : GCipher).Places),[vI ((⟨d.1,d.2.1,d.2.2.1,d.2.2.2.1,d.2.2.2.2.1⟩ : GCipher).Rounds)]]) (cs':=cat [[vI ((⟨d.1,d.2.1,d.2.2.1,d.2.2.2.1,d.2.2.2.2.1⟩ : GCipher).Field)],enc ((⟨d.1,d.2.1,d.2.2.1,d.2.2.2.1,d.2.2.2.2.1⟩ : GCipher).Box),enc ((⟨d.1,d.2.1,d.2.2.1,d.2.2.2.1,d.2.2.2.2.1⟩ : GCipher).Mix),enc ((⟨d.1,d.2.1,d.2.2.1,d.2.2.2.1,d.2.2.2.2.1⟩ : GCipher).Places),[vI ((⟨d.1,d.2.1,d.2.2.1,d.2.2.2.1,d.2.2.2.2.1⟩ : GCipher).Rounds)]]) H I Za R R R Wk cq (q_1 cq cq) (Z0 (cc1 (t_1 ((⟨d.1,d.2.1,d.2.2.1,d.2.2.2.1,d.2.2.2.2.1⟩ : GCipher).Field : Int)) (cc1 (t_1 _) (cc1 (t_1 _) (cc1 (t_1 _) (cc1 (t_1 ((⟨d.1,d.2.1,d.2.2.1,d.2.2.2.1,d.2.2.2.2.1⟩ : GCipher).Rounds : Int)) cc0)))))) (q_2 cq cq) λw a I H=>Ze ?_
 obtain rfl:=o_1 ad
 have Z : Z8 prog _ _ (.cell 2 62) _:=ZH H R Wk R I.ra0 cq R
 have I:=((I.pl3.pl3.pl3).drop.pl2).drop
 exact u_2 (ZT H R Z ⟨_,R,R,I⟩)
def Vv (b : List UInt8) (h : (Int × Int)) : Option ((Int × Int) × UInt8) :=
 (ZQ b (h.1,h.2) 4).bind λc=>(ZQ b (c.1.1,c.1.2) 256).bind λd=>(ZQ b (d.1.1,d.1.2) 256).bind λe=>(X8 b (e.1.1,e.1.2) ([c.2,d.2,e.2,255] : List Int)).bind λf=>some ((f.1.1,f.1.2),Zz f.2)
theorem Bd (St : Nat → Prop) (W n : World) (o : Item) (e : Nat) (c : List UInt8) (b : Value) (d : Rep.sat St W c [b] []) (j : xr) (I : M St W n [raw e (cat [[b],[vI j.1],[Value.int .u64 j.2]]),o]) (r : xr × UInt8) (hF : Vv c j = some r) :
  Calls prog 174 [ptr e 0].toArray n (e_r λv w'=>(v = (vB r.2) ∧ M St W w' [raw e (cat [[b],[vI r.1.1],[Value.int .u64 r.1.2]]),o])):=by
 refine ce func174 ?_
 intro a H
 unfold Vv at hF
 refine Zb (Zc H R λa H=>Ze (Zb (Zd H R λa H=>Zd H R λa H=>?_)))
 have I:=M.tailP (m:=[_]) I
 obtain ⟨f,q,hF⟩:=p_1 hF
 refine Zn H R KT (ZU _ _ _ _ e c b d (j.1,j.2) 4 I f q) ?_
 rintro v w a ⟨rfl,I⟩ H
 have I:=M.tailU (m:=[_]) I
 simp only [l_c,l_n] at I
 refine Zd H R λa H=>?_
 have I:=M.tailP (m:=[_]) I
 obtain ⟨h,t,hF⟩:=p_1 hF
 refine Zn H R KT (ZU _ _ _ _ e c b d (f.1.1,f.1.2) 256 I h t) ?_
 rintro v w a ⟨rfl,I⟩ H
 have I:=M.tailU (m:=[_]) I
 simp only [l_c,l_n] at I
 refine Zd H R λa H=>?_
 have I:=M.tailP (m:=[_]) I
 obtain ⟨i,u,hF⟩:=p_1 hF
 refine Zn H R KT (ZU _ _ _ _ e c b d (h.1.1,h.1.2) 256 I i u) ?_
 rintro v w a ⟨rfl,I⟩ H
 have I:=M.tailU (m:=[_]) I
 simp only [l_c,l_n] at I
 refine ZR (xs:=[.tmp 5,.tmp 7,.tmp 9,.const (vI 255)]) (l:=([f.2,h.2,i.2,255] : List Int)) (vs:=[vI f.2,vI h.2,vI i.2,vI 255]) H I Za ld R R s_4 ty2 R dd_ R λx w a I H=>?_
 have I:=M.tailP (m:=[_,_]) I.pl1
 obtain ⟨y,k,hF⟩:=p_1 hF
 refine Zn H R Zcp (UV _ _ _ _ e c b d (i.1.1,i.1.2) ([f.2,h.2,i.2,255] : List Int) x I y k) ?_
 rintro v w a ⟨rfl,I⟩ H
 have I:=M.tailU (m:=[_,_]) I
 simp only [l_c,l_n] at I
 refine Xq H Za ld R t_4 t_3 λa H=>Zc H R λa H=>Ze ?_
 obtain rfl:=o_1 hF
 have I:=(I.pl2.pl1.pl2).drop
 exact u_2 (ZT H R (Zy H R) ⟨_,R,R,I⟩)
def Tg (d : List UInt8) (b : V16 × Int × Int × Int) : Option (Fl (V16 × Int × Int × Int) (V16 × Int × Int)) :=
 if decide (b.2.2.2 < 16) then ((ZQ d (b.2.1,b.2.2.1) 256).bind λc=>(ZP b.1 b.2.2.2).bind λe=>some (Fl.nx ((b.1.setIfInBounds (b.2.2.2).toNat (Zz c.2)),c.1.1,c.1.2,wr (b.2.2.2 + 1)))) else (some (Fl.ex (b.1,b.2.1,b.2.2.1)))
def W6 (b : List UInt8) (h : (Int × Int)) : Option ((Int × Int) × V16) :=
 (ZQ b (h.1,h.2) 5).bind λe=>if e.2 == 0 then ((ZQ b (e.1.1,e.1.2) 16).bind λf=>(Vv b (f.1.1,f.1.2)).bind λc=>(ZP (Vector.replicate 16 (0 : UInt8)) f.2).bind λi=>some ((c.1.1,c.1.2),(Vector.replicate 16 (0 : UInt8)).setIfInBounds (f.2).toNat c.2)) else ((ZK (Tg b) ((Vector.replicate 16 (0 : UInt8)),e.1.1,e.1.2,0)).bind λd=>some ((d.2.1,d.2.2),d.1))
theorem Ht (St : Nat → Prop) (W O : World) (C : Item) (e : Nat) (f : List UInt8) (c : Value) (h : Rep.sat St W f [c] []) (o : xr) (I : M St W O [raw e (cat [[c],[vI o.1],[Value.int .u64 o.2]]),C]) (r : xr × V16) (hF : W6 f o = some r) :
  Calls prog 146 [ptr e 0].toArray O (e_r λv w'=>(v = (Value.agg (enc r.2).toArray) ∧ M St W w' [raw e (cat [[c],[vI r.1.1],[Value.int .u64 r.1.2]]),C])):=by
 refine ce func146 ?_
 intro a H
 unfold W6 at hF
 refine Zb (Zx H I ZD λE w a I H=>Ze (Zb (Xi (parts:=[]) (vs:=[]) (cs:=enc xb) H Za ld R R ZD R ty5 YK λa H=>Zx H I ZD λF w a I H=>s_w xb H I Za R R R ZD λw a I H=>Ze (s_2 (Zb (Zd H R λa H=>?_))))))
 have I:=M.tailP (m:=[_]) I.pl2
 obtain ⟨G,T,hF⟩:=p_1 hF
 refine Zn H R KT (ZU _ _ _ _ e f c h (o.1,o.2) 5 I G T) ?_
 rintro v w a ⟨rfl,I⟩ H
 have I:=M.tailU (m:=[_]) I
 simp only [l_c,l_n] at I
 refine Zm H R R R λa H=>Ze ?_
 refine c_if H R hF ?_ ?_
 ·intro K hF
  refine Zb (Zd H R λa H=>?_)
  have I:=M.tailP (m:=[_]) I
  obtain ⟨q,U,hF⟩:=p_1 hF
  refine Zn H R KT (ZU _ _ _ _ e f c h (G.1.1,G.1.2) 16 I q U) ?_
  rintro v w a ⟨rfl,I⟩ H
  have I:=M.tailU (m:=[_]) I
  simp only [l_c,l_n] at I
  refine Zd H R λa H=>?_
  have I:=M.tailP (m:=[_]) I
  obtain ⟨i,L,hF⟩:=p_1 hF
  refine Zn H R (cbm func174) (Bd _ _ _ _ e f c h (q.1.1,q.1.2) I i L) ?_
  rintro v w a ⟨rfl,I⟩ H
  have I:=M.tailU (m:=[_]) I
  simp only [l_c,l_n] at I
  obtain ⟨X,k,hF⟩:=bvx hF
  refine ZC H R R u_3 ty5 k.1 λa H=>?_
  have I:=I.pl1
  refine Zk (seg:=[vB i.2]) (cs':=enc (xb.setIfInBounds (q.2).toNat i.2)) H I Za R R R ty5 R (ZS (v:=xb) (x:=i.2) k.1) (t_1 (i.2 : UInt8)) (ZF (v:=xb) (x:=i.2) k.1) λw a I H=>Ze (Zb (Zu H R ZD R I.ra0 (u_1 _) λa H=>?_))
  have I:=I.pl2
  refine s_w (xb.setIfInBounds (q.2).toNat i.2) H I Za R R R ZD λw a I H=>Ze ?_
  obtain rfl:=o_1 hF
  have t : Z8 prog _ _ (.cell 2 53) _:=ZH H R ZD R I.ra0 (u_1 _) R
  have I:=((I.pl3.pl3.pl3).drop.pl2).drop
  exact u_2 (ZA (ZT H R t ⟨_,R,R,I⟩))
 intro K hF
 refine t_2 (Zw (s_2 (Zb (Zc H R λa H=>Ze ?_))))
 obtain ⟨n,u,y⟩:=p_1 hF
 refine ZX (λa w=>Env 25 a [(2,ptr E 0),(3,ptr F 0)] ∧ M St W w [raw e (cat [[c],[vI n.2.1],[Value.int .u64 n.2.2]]),raw F (enc n.1),raw E xi,C]) ?_ ?_
 ·refine p_2 ?_
  refine ZN (λ(d : V16 × Int × Int × Int) a w=>Env 25 a [(0,ptr e 0),(2,ptr E 0),(3,ptr F 0),(4,vI d.2.2.2)] ∧ M St W w [raw e (cat [[c],[vI d.2.1],[Value.int .u64 d.2.2.1]]),raw F (enc d.1),raw E xi,C]) u ⟨H.s,I⟩ ?_
  rintro d a w ⟨H,I⟩ Y b z
  unfold Tg at b
  refine s_2 (Zb (Zd H R λa H=>Zm H R R R λa H=>Ze ?_))
  refine c_if H R b ?_ ?_
  ·intro A b
   refine t_2 (Zw (s_2 (p_2 (s_1 (Zd H R λa H=>Zd H R λa H=>?_)))))
   have I:=M.tailP (m:=[_]) I
   obtain ⟨j,N,b⟩:=p_1 b
   refine Zn H R KT (ZU _ _ _ _ e f c h (d.2.1,d.2.2.1) 256 I j N) ?_
   rintro v w a ⟨rfl,I⟩ H
   have I:=M.tailU (m:=[_]) I
   simp only [l_c,l_n] at I
   refine Xq H Za ld R t_4 t_3 λa H=>?_
   obtain ⟨Z,l,b⟩:=bvx b
   refine ZC H R R u_3 ty5 l.1 λa H=>?_
   have I:=I.pl1
   refine Zk (seg:=[vB (Zz j.2)]) (cs':=enc (d.1.setIfInBounds (d.2.2.2).toNat (Zz j.2))) H I Za R R R ty5 R (ZS (v:=d.1) (x:=Zz j.2) l.1) (t_1 (Zz j.2 : UInt8)) (ZF (v:=d.1) (x:=Zz j.2) l.1) λw a I H=>Zf (Yn (Zw (s_1 (Zd H R λa H=>Zm H R R R λa H=>Zc H R λa H=>Zf (Zi ?_)))))
   have I:=I.pl3.pl3.pl2.pl3
   exact ⟨_,ois b,H.s,I⟩
  intro A b
  refine s_3 (Zp (Zp (Yv ?_)))
  obtain rfl:=z _ (ois b)
  refine Zi ?_
  exact ⟨H.s,I⟩
 rintro a w ⟨H,I⟩
 refine Zw (Zb (Zu H R ZD R I.ra1 (u_1 _) λa H=>?_))
 have I:=I.pl2
 refine s_w n.1 H I Za R R R ZD λw a I H=>Ze ?_
 obtain rfl:=o_1 y
 have B : Z8 prog _ _ (.cell 2 53) _:=ZH H R ZD R I.ra0 (u_1 _) R
 have I:=((I.pl3.pl2.pl3).drop.pl2).drop
 exact u_2 (ZT H R B ⟨_,R,R,I⟩)
def Qs (d : List UInt8) : Option (GCipher × V16 × V16) :=
 (T1 d).bind λf=>(Qy d (f.1,f.2)).bind λb=>(W6 d (b.1.1,b.1.2)).bind λc=>(W6 d (c.1.1,c.1.2)).bind λe=>some (b.2,c.2,e.2)
theorem qo (l : World) (f : List UInt8) (c : Value) (d : Ro l f [c]) (r : GCipher × V16 × V16) (hF : Qs f = some r) :
  Calls prog 200 [c].toArray l (Rt l (Value.tuple [Value.agg (enc r.1).toArray,Value.agg (enc r.2.1).toArray,Value.agg (enc r.2.2).toArray].toArray)):=by
 refine ce func200 ?_
 intro a H
 have I:=M.start l
 unfold Qs at hF
 refine Zb (Zx H I Wk λy w a I H=>Zx H I ZD λz w a I H=>Zx H I ZD λA w a I H=>Ze (Zb (Zd H R λa H=>?_)))
 have I:=M.tailP (m:=[]) I
 obtain ⟨n,x,hF⟩:=p_1 hF
 refine Zn H R (cbm func77) (A4 _ _ _ _ f c d I n x) ?_
 rintro v w a ⟨o,rfl,I⟩ H
 have I:=M.tailU (m:=[_]) I
 simp only [l_c,l_n] at I
 refine Zc H R λa H=>Ze (Zb (Zd H R λa H=>?_))
 have I:=M.tailP (m:=[_]) I
 obtain ⟨b,q,hF⟩:=p_1 hF
 refine Zn H R (cbm func269) (qB _ _ _ _ o f c d (n.1,n.2) I b q) ?_
 rintro v w a ⟨rfl,I⟩ H
 have I:=M.tailU (m:=[_]) I
 simp only [l_c,l_n] at I
 refine Zd H R λa H=>?_
 have I:=M.tailP (m:=[_]) I
 obtain ⟨e,t,hF⟩:=p_1 hF
 refine Zn H R (cbm func146) (Ht _ _ _ _ o f c d (b.1.1,b.1.2) I e t) ?_
 rintro v w a ⟨rfl,I⟩ H
 have I:=M.tailU (m:=[_]) I
 simp only [l_c,l_n] at I
 refine Zd H R λa H=>?_
 have I:=M.tailP (m:=[_]) I
 obtain ⟨h,u,hF⟩:=p_1 hF
 refine Zn H R (cbm func146) (Ht _ _ _ _ o f c d (e.1.1,e.1.2) I h u) ?_
 rintro v w a ⟨rfl,I⟩ H
 have I:=M.tailU (m:=[_]) I
 simp only [l_c,l_n] at I
 have I:=I.pl3
 refine Zk (seg:=cat [[vI b.2.Field],enc b.2.Box,enc b.2.Mix,enc b.2.Places,[vI b.2.Rounds]]) (cs':=cat [[vI b.2.Field],enc b.2.Box,enc b.2.Mix,enc b.2.Places,[vI b.2.Rounds]]) H I Za R R R Wk cq (q_1 cq cq) (Z0 (cc1 (t_1 (b.2.Field : Int)) (cc1 (t_1 _) (cc1 (t_1 _) (cc1 (t_1 _) (cc1 (t_1 (b.2.Rounds : Int)) cc0)))))) (q_2 cq cq) λw a I H=>?_
 have I:=I.pl3
 refine s_w e.2 H I Za R R R ZD λw a I H=>?_
 have I:=I.pl3
 refine s_w h.2 H I Za R R R ZD λw a I H=>Ze ?_
 obtain rfl:=o_1 hF
 have i : Z8 prog _ _ (.cell 2 62) _:=ZH H R Wk R I.ra2 cq R
 have j : Z8 prog _ _ (.cell 3 53) _:=ZH H R ZD R I.ra1 (u_1 _) R
 have k : Z8 prog _ _ (.cell 4 53) _:=ZH H R ZD R I.ra0 (u_1 _) R
 exact u_2 (kp H R i j k ⟨_,R,R,I.kept⟩)
def Tv (d : List UInt8) (b : Int × Int × List UInt8 × Int) : Option (Fl (Int × Int × List UInt8 × Int) (Int × Int × List UInt8)) :=
 if decide (b.2.2.2 > 0) then ((Vv d (b.1,b.2.1)).bind λc=>(app 1 b.2.2.1 ([c.2] : List UInt8)).bind λe=>some (Fl.nx (c.1.1,c.1.2,b.2.2.1 ++ ([c.2] : List UInt8),wr (b.2.2.2 - 1)))) else (some (Fl.ex (b.1,b.2.1,b.2.2.1)))
def Ug (b : List UInt8) (j : (Int × Int)) (e : Int) : Option ((Int × Int) × List UInt8) :=
 (ZQ b (j.1,j.2) (wr ((if 5 < e then 5 else e) + 1))).bind λf=>(ZQ b (f.1.1,f.1.2) (wr ((if 40 < e then 40 else e) + 1))).bind λh=>(ZQ b (h.1.1,h.1.2) (wr (e + 1))).bind λi=>(X8 b (i.1.1,i.1.2) ([f.2,h.2,i.2] : List Int)).bind λc=>(ZK (Tv b) (c.1.1,c.1.2,([] : List UInt8),c.2)).bind λd=>some ((d.1,d.2.1),d.2.2)
theorem zP (St : Nat → Prop) (W O : World) (C : Item) (d : Nat) (e : List UInt8) (b : Value) (f : Rep.sat St W e [b] []) (x : xr) (k : Int) (I : M St W O [raw d (cat [[b],[vI x.1],[Value.int .u64 x.2]]),C]) (r : xr × List UInt8) (hF : Ug e x k = some r) :
  Calls prog 80 [ptr d 0,vI k].toArray O (e_r λv w'=>(∃ T : Value,v = T ∧ M St W w' [raw d (cat [[b],[vI r.1.1],[Value.int .u64 r.1.2]]),osl NoB r.2 T,C])):=by
 refine ce func80 ?_
 intro a H
 unfold Ug at hF
 refine Zb (Zc H R λa H=>Ze (Zb (ZR (xs:=[]) (l:=xz) (vs:=[]) H I Za ld R R o_2 ty5 R dd_ R λU w a I H=>Zc H R λa H=>Ze (s_2 (Zb (Zd H R λa H=>Zd H R λa H=>Zd H R λa H=>Znx H Za ld R R λa H=>Zm H R R R λa H=>?_))))))
 have I:=M.tailP (m:=[_]) I.pl1
 obtain ⟨q,X,hF⟩:=p_1 hF
 refine Zn H R KT (ZU _ _ _ _ d e b f (x.1,x.2) (wr ((if 5 < k then 5 else k) + 1)) I q X) ?_
 rintro v w a ⟨rfl,I⟩ H
 have I:=M.tailU (m:=[_]) I
 simp only [l_c,l_n] at I
 refine Zd H R λa H=>Zd H R λa H=>Znx H Za ld R R λa H=>Zm H R R R λa H=>?_
 have I:=M.tailP (m:=[_]) I
 obtain ⟨t,Y,hF⟩:=p_1 hF
 refine Zn H R KT (ZU _ _ _ _ d e b f (q.1.1,q.1.2) (wr ((if 40 < k then 40 else k) + 1)) I t Y) ?_
 rintro v w a ⟨rfl,I⟩ H
 have I:=M.tailU (m:=[_]) I
 simp only [l_c,l_n] at I
 refine Zd H R λa H=>Zd H R λa H=>Zm H R R R λa H=>?_
 have I:=M.tailP (m:=[_]) I
 obtain ⟨u,Z,hF⟩:=p_1 hF
 refine Zn H R KT (ZU _ _ _ _ d e b f (t.1.1,t.1.2) (wr (k + 1)) I u Z) ?_
 rintro v w a ⟨rfl,I⟩ H
 have I:=M.tailU (m:=[_]) I
 simp only [l_c,l_n] at I
 refine ZR (xs:=[.tmp 13,.tmp 18,.tmp 22]) (l:=([q.2,t.2,u.2] : List Int)) (vs:=[vI q.2,vI t.2,vI u.2]) H I Za ld R R s_4 ty2 R dd_ R λu9 w a I H=>?_
 have I:=M.tailP (m:=[_,_]) I.pl1
 obtain ⟨E,F,hF⟩:=p_1 hF
 refine Zn H R Zcp (UV _ _ _ _ d e b f (u.1.1,u.1.2) ([q.2,t.2,u.2] : List Int) u9 I E F) ?_
 rintro v w a ⟨rfl,I⟩ H
 have I:=M.tailU (m:=[_,_]) I
 simp only [l_c,l_n] at I
 refine Zc H R λa H=>Ze ?_
 obtain ⟨n,y,z⟩:=p_1 hF
 refine ZX (λa w=>∃ i : Value,Env 35 a [(5,i)] ∧ M St W w [raw d (cat [[b],[vI n.1],[Value.int .u64 n.2.1]]),C,osl NoB n.2.2 i]) ?_ ?_
 ·refine p_2 ?_
  have I:=(I.pl2.pl3.pl2.pl3).drop
  refine ZN (λ(h : Int × Int × List UInt8 × Int) a w=>∃ j : Value,Env 35 a [(0,ptr d 0),(5,j),(6,vI h.2.2.2)] ∧ M St W w [raw d (cat [[b],[vI h.1],[Value.int .u64 h.2.1]]),C,osl NoB h.2.2.1 j]) y ⟨U,H.s,I⟩ ?_
  rintro h a w ⟨j,H,I⟩ ab c A
  unfold Tv at c
  refine s_2 (Zb (Zd H R λa H=>Zm H R R R λa H=>Ze ?_))
  refine c_if H R c ?_ ?_
  ·intro B c
   refine t_2 (Zw (s_2 (p_2 (s_1 (Zd H R λa H=>Zd H R λa H=>?_)))))
   have I:=M.tailP (m:=[_]) I
   obtain ⟨o,G,c⟩:=p_1 c
   refine Zn H R (cbm func174) (Bd _ _ _ _ d e b f (h.1,h.2.1) I o G) ?_
   rintro v w a ⟨rfl,I⟩ H
   have I:=M.tailU (m:=[_]) I
   simp only [l_c,l_n] at I
   refine ZR (xs:=[.tmp 31]) (l:=([o.2] : List UInt8)) (vs:=[vB o.2]) H I Za ld R R o_2 ty5 R dd_ R λac w a I H=>?_
   obtain ⟨ad,K,c⟩:=p_1 c
   obtain ⟨L,rfl⟩:=Yc K
   have I:=I.pl3
   refine Yg H I Za ld R R (I.sl1) o_2 ty5 R dd_ L λN w a I H=>Zc H R λa H=>Zf (Yn (Zw (s_1 (Zd H R λa H=>Zm H R R R λa H=>Zc H R λa H=>Zf (Zi ?_)))))
   have I:=(I.pl3.pl3.pl3).drop
   exact ⟨_,ois c,N,H.s,I⟩
  intro B c
  refine s_3 (Zp (Zp (Yv ?_)))
  obtain rfl:=A _ (ois c)
  refine Zi ?_
  exact ⟨j,H.s,I⟩
 rintro a w ⟨i,H,I⟩
 refine Zw (Zb (Zd H R λa H=>Zc H R λa H=>Ze ?_))
 obtain rfl:=o_1 z
 have I:=I.pl1.pl2.pl2
 exact u_2 (ZT H R (Zy H R) ⟨_,R,i,R,I⟩)
def Hs (e : List UInt8) (f : Int) (b : Int × Int × List UInt8) : Option (Fl (Int × Int × List UInt8) (Int × Int × List UInt8)) :=
 (if decide ((b.2.2.length : Int) < f) then ((ZQ e (b.1,b.2.1) 16).bind λd=>some (d.1.1,d.1.2,decide (d.2 > 0))) else (some (b.1,b.2.1,false)) : Option (Int × Int × Bool)).bind λc=>if c.2.2 then ((app 1 b.2.2 ([Zz (b.2.2.length : Int)] : List UInt8)).bind λh=>some (Fl.nx (c.1,c.2.1,b.2.2 ++ ([Zz (b.2.2.length : Int)] : List UInt8)))) else (some (Fl.ex (c.1,c.2.1,b.2.2)))
def Qu (b : List UInt8) : Option (Fl (List UInt8) (List UInt8)) :=
 if decide ((b.length : Int) ≤ 2016) then ((app 1 b ([0] : List UInt8)).bind λc=>some (Fl.nx (b ++ ([0] : List UInt8)))) else (some (Fl.ex b))
def JJ (f : List UInt8) (o : Int) : Option (GCipher × V16 × V16 × List UInt8) :=
 (T1 f).bind λn=>(Qs f).bind λc=>((ZQ f (n.1,n.2) 4).bind λd=>if d.2 == 0 then ((ZQ f (d.1.1,d.1.2) 6).bind λh=>some (h.1.1,h.1.2,((((((((Vector.replicate 16 (0 : UInt8)).setIfInBounds 8 255).setIfInBounds 9 255).setIfInBounds 10 255).setIfInBounds 11 255).setIfInBounds 12 255).setIfInBounds 13 255).setIfInBounds 14 255).setIfInBounds 15 (Zz (wr (250 + h.2))))) else (some (d.1.1,d.1.2,c.2.2)) : Option (Int × Int × V16)).bind λi=>(Ug f (i.1,i.2.1) 120).bind λj=>(ZK (Hs f o) (j.1.1,j.1.2,j.2)).bind λe=>((ZQ f (e.1,e.2.1) 60).bind λk=>if k.2 == 0 then ((ZK (Qu) e.2.2).bind λl=>some l) else (some e.2.2) : Option ((List UInt8))).bind λm=>(some (c.1.Field,c.1.Box,c.1.Mix,c.1.Places,c.1.Rounds,c.2.1,i.2.2,m) : Option (Int × V256 × V44 × V16 × Int × V16 × V16 × List UInt8)).bind λb=>some ((⟨b.1,b.2.1,b.2.2.1,b.2.2.2.1,b.2.2.2.2.1⟩ : GCipher),b.2.2.2.2.2.1,b.2.2.2.2.2.2.1,b.2.2.2.2.2.2.2)
theorem Zca (C : World) (p0 : List UInt8) (d : Value) (f : Ro C p0 [d]) (p1 : Int) (r : GCipher × V16 × V16 × List UInt8) (hF : JJ p0 p1 = some r) :
  Calls prog 107 [d,vI p1].toArray C (e_r λv w'=>(∃ y1 : Value,v = (Value.tuple [Value.agg (enc r.1).toArray,Value.agg (enc r.2.1).toArray,Value.agg (enc r.2.2.1).toArray,y1].toArray) ∧ Fr C w' [osl NoB r.2.2.2 y1] ∧ Kept (Old C) C w')):=by
 refine ce func107 ?_
 intro a H
 have I:=M.start C
 unfold JJ at hF
 refine Zb (Zx H I Wk λL w a I H=>Zx H I ZD λN w a I H=>Zx H I ZD λO w a I H=>Zc H R λa H=>Ze (Zb (Zd H R λa H=>?_)))
 have I:=M.tailP (m:=[]) I
 obtain ⟨r7,e8,hF⟩:=p_1 hF
 refine Zn H R (cbm func77) (A4 _ _ _ _ p0 d f I r7 e8) ?_
 rintro v w a ⟨U,rfl,I⟩ H
 have I:=M.tailU (m:=[_]) I
 simp only [l_c,l_n] at I
 refine Zc H R λa H=>Ze (Zb (Zd H R λa H=>?_))
 obtain ⟨b,a6,hF⟩:=p_1 hF
 refine c_k H I R (cbm func200) (qo _ p0 d (I.rdo f) b a6) λw a I H=>?_
 refine Zd H R λa H=>ZM H Za ld R R λa H=>ZM H Za ld R R λa H=>ZM H Za ld R R λa H=>Zx H I Wk λh w a I H=>Zx H I ZD λi w a I H=>Zx H I ZD λn w a I H=>?_
 have I:=I.pl2
 refine Zk (seg:=cat [[vI b.1.Field],enc b.1.Box,enc b.1.Mix,enc b.1.Places,[vI b.1.Rounds]]) (cs':=cat [[vI b.1.Field],enc b.1.Box,enc b.1.Mix,enc b.1.Places,[vI b.1.Rounds]]) H I Za R R R Wk cq (q_1 cq cq) (Z0 (cc1 (t_1 (b.1.Field : Int)) (cc1 (t_1 _) (cc1 (t_1 _) (cc1 (t_1 _) (cc1 (t_1 (b.1.Rounds : Int)) cc0)))))) (q_2 cq cq) λw a I H=>?_
 have I:=I.pl2
 refine s_w b.2.1 H I Za R R R ZD λw a I H=>?_
 have I:=I.pl2
 refine s_w b.2.2 H I Za R R R ZD λw a I H=>Ze ?_
 obtain ⟨o,q,Y⟩:=p_1 hF
 refine ZG (λa w=>Env 59 a [(1,vI p1),(4,ptr L 0),(5,ptr N 0),(6,ptr O 0),(8,ptr U 0),(9,ptr h 0),(10,ptr i 0),(11,ptr n 0)] ∧ M (Old C) C w [raw n (enc o.2.2),raw i (enc b.2.1),raw h (cat [[vI b.1.Field],enc b.1.Box,enc b.1.Mix,enc b.1.Places,[vI b.1.Rounds]]),raw U (cat [[d],[vI o.1],[Value.int .u64 o.2.1]]),raw O xi,raw N xi,raw L xh]) ?_ ?_
 ·refine Zb (Zd H R λa H=>?_)
  have I:=M.tailP (m:=[_]) I.pl3
  obtain ⟨ai,a7,q⟩:=p_1 q
  refine Zn H R KT (ZU _ _ _ _ U p0 d f (r7.1,r7.2) 4 I ai a7) ?_
  rintro v w a ⟨rfl,I⟩ H
  have I:=M.tailU (m:=[_]) I
  simp only [l_c,l_n] at I
  refine Zm H R R R λa H=>Ze ?_
  refine c_if H R q ?_ ?_
  ·intro al q
   refine s_1 (Zd H R λa H=>?_)
   have I:=M.tailP (m:=[_]) I
   obtain ⟨W,a8,q⟩:=p_1 q
   refine Zn H R KT (ZU _ _ _ _ U p0 d f (ai.1.1,ai.1.2) 6 I W a8) ?_
   rintro v w a ⟨rfl,I⟩ H
   have I:=M.tailU (m:=[_]) I
   simp only [l_c,l_n] at I
   refine Zm H R R R λa H=>Xq H Za ld R t_4 t_3 λa H=>Xi (parts:=[(8,.const (vB 255)),(9,.const (vB 255)),(10,.const (vB 255)),(11,.const (vB 255)),(12,.const (vB 255)),(13,.const (vB 255)),(14,.const (vB 255)),(15,.tmp 27)]) (vs:=[(8,vB 255),(9,vB 255),(10,vB 255),(11,vB 255),(12,vB 255),(13,vB 255),(14,vB 255),(15,vB (Zz (wr (250 + W.2))))]) (cs:=enc ((((((((xb.setIfInBounds 8 255).setIfInBounds 9 255).setIfInBounds 10 255).setIfInBounds 11 255).setIfInBounds 12 255).setIfInBounds 13 255).setIfInBounds 14 255).setIfInBounds 15 (Zz (wr (250 + W.2))))) H Za ld R R ZD R ty5 (Xj (v:=xb) (x:=255) R dd_ R (Xj (v:=(xb.setIfInBounds 8 255)) (x:=255) R dd_ R (Xj (v:=((xb.setIfInBounds 8 255).setIfInBounds 9 255)) (x:=255) R dd_ R (Xj (v:=(((xb.setIfInBounds 8 255).setIfInBounds 9 255).setIfInBounds 10 255)) (x:=255) R dd_ R (Xj (v:=((((xb.setIfInBounds 8 255).setIfInBounds 9 255).setIfInBounds 10 255).setIfInBounds 11 255)) (x:=255) R dd_ R (Xj (v:=(((((xb.setIfInBounds 8 255).setIfInBounds 9 255).setIfInBounds 10 255).setIfInBounds 11 255).setIfInBounds 12 255)) (x:=255) R dd_ R (Xj (v:=((((((xb.setIfInBounds 8 255).setIfInBounds 9 255).setIfInBounds 10 255).setIfInBounds 11 255).setIfInBounds 12 255).setIfInBounds 13 255)) (x:=255) R dd_ R (Xj (v:=(((((((xb.setIfInBounds 8 255).setIfInBounds 9 255).setIfInBounds 10 255).setIfInBounds 11 255).setIfInBounds 12 255).setIfInBounds 13 255).setIfInBounds 14 255)) (x:=Zz (wr (250 + W.2))) R dd_ R YK)))))))) λa H=>?_
   have I:=I.pl1
   refine Zk (seg:=enc ((((((((xb.setIfInBounds 8 255).setIfInBounds 9 255).setIfInBounds 10 255).setIfInBounds 11 255).setIfInBounds 12 255).setIfInBounds 13 255).setIfInBounds 14 255).setIfInBounds 15 (Zz (wr (250 + W.2))))) (cs':=enc ((((((((xb.setIfInBounds 8 255).setIfInBounds 9 255).setIfInBounds 10 255).setIfInBounds 11 255).setIfInBounds 12 255).setIfInBounds 13 255).setIfInBounds 14 255).setIfInBounds 15 (Zz (wr (250 + W.2))))) H I Za R R R ZD (u_1 _) (zle flq) (t_1 _) (Zg flq) λw a I H=>Zf ?_
   obtain rfl:=o_1 q
   refine Zi ?_
   have I:=I.pl6.pl6.pl6.pl4.pl6.pl6.pl6
   exact ⟨H.s,I⟩
  intro al q
  refine t_2 ?_
  obtain rfl:=o_1 q
  refine Zi ?_
  have I:=I.pl6.pl6.pl6.pl3.pl6.pl6.pl6
  exact ⟨H.s,I⟩
 rintro a w ⟨H,I⟩
 refine Zb (Zd H R λa H=>?_)
 have I:=M.tailP (m:=[_]) I.pl3
 obtain ⟨a9,ba,Y⟩:=p_1 Y
 refine Zn H R (cbm func80) (zP _ _ _ _ U p0 d f (o.1,o.2.1) 120 I a9 ba) ?_
 rintro bb w a ⟨_,rfl,I⟩ H
 have I:=M.tailU (m:=[_,_]) I
 simp only [l_c,l_n] at I
 refine Zc H R λa H=>Ze ?_
 obtain ⟨Z,am,an⟩:=p_1 Y
 refine ZG (λa w=>∃ aa : Value,Env 59 a [(4,ptr L 0),(5,ptr N 0),(6,ptr O 0),(8,ptr U 0),(9,ptr h 0),(10,ptr i 0),(11,ptr n 0),(12,aa)] ∧ M (Old C) C w [raw U (cat [[d],[vI Z.1],[Value.int .u64 Z.2.1]]),raw n (enc o.2.2),raw i (enc b.2.1),raw h (cat [[vI b.1.Field],enc b.1.Box,enc b.1.Mix,enc b.1.Places,[vI b.1.Rounds]]),raw O xi,raw N xi,raw L xh,osl NoB Z.2.2 aa]) ?_ ?_
 ·refine p_2 ?_
  have I:=I.pl1.pl7.pl7.pl7.pl7.pl7.pl7.pl7
  refine ZN (λ(G : Int × Int × List UInt8) a w=>∃ X : Value,Env 59 a [(1,vI p1),(4,ptr L 0),(5,ptr N 0),(6,ptr O 0),(8,ptr U 0),(9,ptr h 0),(10,ptr i 0),(11,ptr n 0),(12,X)] ∧ M (Old C) C w [raw U (cat [[d],[vI G.1],[Value.int .u64 G.2.1]]),raw n (enc o.2.2),raw i (enc b.2.1),raw h (cat [[vI b.1.Field],enc b.1.Box,enc b.1.Mix,enc b.1.Places,[vI b.1.Rounds]]),raw O xi,raw N xi,raw L xh,osl NoB G.2.2 X]) am ⟨bb,H.s,I⟩ ?_
  rintro G a w ⟨X,H,I⟩ bp ah ao
  unfold Hs at ah
  refine s_2 ?_
  obtain ⟨aj,t,A⟩:=p_1 ah
  refine ZG (λa w=>Env 59 a [(1,vI p1),(4,ptr L 0),(5,ptr N 0),(6,ptr O 0),(8,ptr U 0),(9,ptr h 0),(10,ptr i 0),(11,ptr n 0),(12,X),(39,vT aj.2.2)] ∧ M (Old C) C w [raw U (cat [[d],[vI aj.1],[Value.int .u64 aj.2.1]]),raw n (enc o.2.2),raw i (enc b.2.1),raw h (cat [[vI b.1.Field],enc b.1.Box,enc b.1.Mix,enc b.1.Places,[vI b.1.Rounds]]),raw O xi,raw N xi,raw L xh,osl NoB G.2.2 X]) ?_ ?_
  ·refine s_1 (Zd H R λa H=>Yp H R o_2 (I.sl (pre:=[_,_,_,_,_,_,_]) noB) λa H=>Zd H R λa H=>Zm H R R R λa H=>Zd H R λa H=>?_)
   refine Yq (decide ((G.2.2.length : Int) < p1)) (λe=>?_) (λe=>?_)
   ·have t:=Zt t e
    refine Zl H (Zh H R (lkb R e)) dd_ R λa H=>?_
    have I:=M.tailP (m:=[_]) I
    obtain ⟨bc,bd,t⟩:=p_1 t
    refine ZW H (Zh H R (lkb R e)) dd_ R KT (ZU _ _ _ _ U p0 d f (G.1,G.2.1) 16 I bc bd) ?_
    rintro v w a ⟨rfl,I⟩ H
    have I:=M.tailU (m:=[_]) I
    simp only [l_c,l_n] at I
    refine Ye H (Zh H R (lkb R e)) dd_ R R R λa H=>Z2 H (lkb R e) R λa H=>Zf ?_
    obtain rfl:=o_1 t
    refine Zi ?_
    exact ⟨H.s,I⟩
   have t:=Zs t e
   refine k_s H e R R R λa H=>k_s H e R R R λa H=>k_s H e R R R λa H=>ZZ H (lkb R e) R λa H=>Zf ?_
   obtain rfl:=o_1 t
   refine Zi ?_
   exact ⟨H.s,I⟩
  rintro a w ⟨H,I⟩
  refine c_if H R A ?_ ?_
  ·intro ap A
   refine t_2 (Zw (p_2 (s_1 (Zd H R λa H=>Zd H R λa H=>Yp H R o_2 (I.sl (pre:=[_,_,_,_,_,_,_]) noB) λa H=>Xq H Za ld R o_6 t_3 λa H=>ZR (xs:=[.tmp 43]) (l:=([Zz (G.2.2.length : Int)] : List UInt8)) (vs:=[vB (Zz (G.2.2.length : Int))]) H I Za ld R R o_2 ty5 R dd_ R λbq w a I H=>?_))))
   obtain ⟨br,be,A⟩:=p_1 A
   obtain ⟨bg,rfl⟩:=Yc be
   have I:=I.pl8
   refine Yg H I Za ld R R (I.sl1) o_2 ty5 R dd_ bg λbh w a I H=>Zc H R λa H=>Zf (Yn (Zi ?_))
   have I:=M.fst (l:=[_,_,_,_,_,_,_,_]) I.pl8.pl8.pl8.pl8.pl8.pl8.pl8
   exact ⟨_,ois A,bh,H.s,I⟩
  intro ap A
  refine s_3 (Zp (Zp (Yv ?_)))
  obtain rfl:=ao _ (ois A)
  refine Zi ?_
  exact ⟨X,H.s,I⟩
 rintro a w ⟨aa,H,I⟩
 obtain ⟨aq,B,ar⟩:=p_1 an
 refine ZG (λa w=>∃ ab : Value,Env 59 a [(4,ptr L 0),(5,ptr N 0),(6,ptr O 0),(9,ptr h 0),(10,ptr i 0),(11,ptr n 0),(12,ab)] ∧ M (Old C) C w [raw n (enc o.2.2),raw i (enc b.2.1),raw h (cat [[vI b.1.Field],enc b.1.Box,enc b.1.Mix,enc b.1.Places,[vI b.1.Rounds]]),raw O xi,raw N xi,raw L xh,osl NoB aq ab]) ?_ ?_
 ·refine Zb (Zd H R λa H=>?_)
  have I:=M.tailP (m:=[_]) I
  obtain ⟨bi,bj,B⟩:=p_1 B
  refine Zn H R KT (ZU _ _ _ _ U p0 d f (Z.1,Z.2.1) 60 I bi bj) ?_
  rintro v w a ⟨rfl,I⟩ H
  have I:=M.tailU (m:=[_]) I
  simp only [l_c,l_n] at I
  refine Zm H R R R λa H=>Ze ?_
  refine c_if H R B ?_ ?_
  ·intro au B
   obtain ⟨bk,av,aw⟩:=p_1 B
   refine ZX (λa w=>∃ ae : Value,Env 59 a [(4,ptr L 0),(5,ptr N 0),(6,ptr O 0),(9,ptr h 0),(10,ptr i 0),(11,ptr n 0),(12,ae)] ∧ M (Old C) C w [raw n (enc o.2.2),raw i (enc b.2.1),raw h (cat [[vI b.1.Field],enc b.1.Box,enc b.1.Mix,enc b.1.Places,[vI b.1.Rounds]]),raw O xi,raw N xi,raw L xh,osl NoB bk ae]) ?_ ?_
   ·refine p_2 ?_
    have I:=M.fst (l:=[_,_,_,_,_,_,_]) I.pl7.pl7.pl7.pl7.pl7.pl7.pl7
    refine ZN (λ(ax : List UInt8) a w=>∃ af : Value,Env 59 a [(4,ptr L 0),(5,ptr N 0),(6,ptr O 0),(9,ptr h 0),(10,ptr i 0),(11,ptr n 0),(12,af)] ∧ M (Old C) C w [raw n (enc o.2.2),raw i (enc b.2.1),raw h (cat [[vI b.1.Field],enc b.1.Box,enc b.1.Mix,enc b.1.Places,[vI b.1.Rounds]]),raw O xi,raw N xi,raw L xh,osl NoB ax af]) av ⟨aa,H.s,I⟩ ?_
    rintro ax a w ⟨af,H,I⟩ bs y ay
    unfold Qu at y
    refine s_2 (Zb (Zd H R λa H=>Yp H R o_2 (I.sl (pre:=[_,_,_,_,_,_]) noB) λa H=>Zm H R R R λa H=>Ze ?_))
    refine c_if H R y ?_ ?_
    ·intro az y
     refine t_2 (Zw (p_2 (s_1 (Zd H R λa H=>ZR (xs:=[.const (vB 0)]) (l:=([0] : List UInt8)) (vs:=[vB 0]) H I Za ld R R o_2 ty5 R dd_ R λu80 w a I H=>?_))))
     obtain ⟨bt,bl,y⟩:=p_1 y
     obtain ⟨bm,rfl⟩:=Yc bl
     have I:=I.pl7
     refine Yg H I Za ld R R (I.sl1) o_2 ty5 R dd_ bm λu84 w a I H=>Zc H R λa H=>Zf (Yn (Zi ?_))
     have I:=M.fst (l:=[_,_,_,_,_,_,_]) I.pl7.pl7.pl7.pl7.pl7.pl7
     exact ⟨_,ois y,u84,H.s,I⟩
    intro az y
    refine s_3 (Zp (Zp (Yv ?_)))
    obtain rfl:=ay _ (ois y)
    refine Zi ?_
    exact ⟨af,H.s,I⟩
   rintro a w ⟨ae,H,I⟩
   obtain rfl:=o_1 aw
   refine Zi ?_
   exact ⟨ae,H.s,I⟩
  intro au B
  refine t_2 ?_
  obtain rfl:=o_1 B
  refine Zi ?_
  have I:=M.fst (l:=[_,_,_,_,_,_,_]) I.pl7.pl7.pl7.pl7.pl7.pl7.pl7
  exact ⟨aa,H.s,I⟩
 rintro a w ⟨ab,H,I⟩
 obtain ⟨T,a0,a1⟩:=p_1 ar
 refine ZG (λa w=>∃ ag : Value,Env 59 a [(4,ptr L 0),(5,ptr N 0),(6,ptr O 0),(7,ag)] ∧ M (Old C) C w [raw O (enc T.2.2.2.2.2.2.1),raw N (enc T.2.2.2.2.2.1),raw L (cat [[vI T.1],enc T.2.1,enc T.2.2.1,enc T.2.2.2.1,[vI T.2.2.2.2.1]]),osl NoB T.2.2.2.2.2.2.2 ag]) ?_ ?_
 ·have I:=I.pl5.pl5.pl5
  refine Y0 (its:=[raw n (enc o.2.2),raw i (enc b.2.1),raw h (cat [[vI b.1.Field],enc b.1.Box,enc b.1.Mix,enc b.1.Places,[vI b.1.Rounds]]),osl NoB aq ab]) (mk:=([mkT 4 (raw L xh) (raw L (cat [[vI b.1.Field],enc b.1.Box,enc b.1.Mix,enc b.1.Places,[vI b.1.Rounds]])),mkT 5 (raw N xi) (raw N (enc b.2.1)),mkT 6 (raw O xi) (raw O (enc o.2.2))] : Mk)) [55,56,57,58,63,64,65] YJ R R dd_ R H (λu=>M.qT (M.qT (M.qT (M.q0 I.drew u)))) (qsP (v:=(Value.agg (enc b.1).toArray)) ?_ (qsP (v:=(Value.agg (enc b.2.1).toArray)) ?_ (qsP (v:=(Value.agg (enc o.2.2).toArray)) ?_ (q_m (λ_=>R) (q_t ?_ (q_t ?_ (q_t ?_ qs0))))))) ?_
  ·intro a w K D z
   have H:=z.E
   have hD : D 0 = false:=z.F
   have I:=((z.M.togA (pre:=[_,_,_,_]) (Kb (j:=4) (k:=0) z.c R R R hD)).togA (pre:=[_,_,_,_,_]) (Kb (j:=5) (k:=2) z.c R R R hD)).togA (pre:=[_,_,_,_,_,_]) (Kb (j:=6) (k:=2) z.c R R R hD)
   exact Zu H R Wk R I.ra2 cq λa H=>⟨t_6 _ _,_,R,H⟩
  ·intro a w K D z
   have H:=z.E
   have hD : D 1 = false:=z.F
   have I:=(z.M.togA (pre:=[_,_,_,_,_]) (Kb (j:=5) (k:=0) z.c R R R hD)).togA (pre:=[_,_,_,_,_,_]) (Kb (j:=6) (k:=3) z.c R R R hD)
   exact Zu H R ZD R I.ra1 (u_1 _) λa H=>⟨t_6 _ _,_,R,H⟩
  ·intro a w K D z
   have H:=z.E
   have hD : D 2 = false:=z.F
   have I:=z.M.togA (pre:=[_,_,_,_,_,_]) (Kb (j:=6) (k:=0) z.c R R R hD)
   exact Zu H R ZD R I.ra0 (u_1 _) λa H=>⟨t_6 _ _,_,R,H⟩
  ·intro a w K D z
   have H:=z.E
   have hD : D 4 = false:=z.F
   have I:=(z.M.togA (pre:=[_,_,_,_]) hD).pl4
   exact Zk (seg:=cat [[vI b.1.Field],enc b.1.Box,enc b.1.Mix,enc b.1.Places,[vI b.1.Rounds]]) (cs':=cat [[vI b.1.Field],enc b.1.Box,enc b.1.Mix,enc b.1.Places,[vI b.1.Rounds]]) H I Za R R R Wk cq (q_1 cq cq) (Z0 (cc1 (t_1 (b.1.Field : Int)) (cc1 (t_1 _) (cc1 (t_1 _) (cc1 (t_1 _) (cc1 (t_1 (b.1.Rounds : Int)) cc0)))))) (q_2 cq cq) λw a I H=>⟨undef,_,R,Env.dummy H dd_,M.qTog (mk1:=[]) (mk2:=[_,_]) I R,trivial⟩
  ·intro a w K D z
   have H:=z.E
   have hD : D 5 = false:=z.F
   have I:=(z.M.togA (pre:=[_,_,_,_,_]) hD).pl5
   exact s_w b.2.1 H I Za R R R ZD λw a I H=>⟨undef,_,R,Env.dummy H dd_,M.qTog (mk1:=[_]) (mk2:=[_]) I R,trivial⟩
  ·intro a w K D z
   have H:=z.E
   have hD : D 6 = false:=z.F
   have I:=(z.M.togA (pre:=[_,_,_,_,_,_]) hD).pl6
   exact s_w o.2.2 H I Za R R R ZD λw a I H=>⟨undef,_,R,Env.dummy H dd_,M.qTog (mk1:=[_,_]) (mk2:=[]) I R,trivial⟩
  intro a w K D H I hG ac
  have d4:=ac 4 dd_
  have d5:=ac 5 dd_
  have d6:=ac 6 dd_
  have I:=((I.togB (pre:=[_,_,_,_]) d4).togB (pre:=[_,_,_,_,_]) d5).togB (pre:=[_,_,_,_,_,_]) d6
  refine Zc H R λa H=>Zf ?_
  obtain rfl:=o_1 a0
  refine Zi ?_
  have I:=I.pl3.pl4.pl5.pl6.f_4
  exact ⟨ab,H.s,I⟩
 rintro a w ⟨ag,H,I⟩
 obtain rfl:=o_1 a1
 have a2 : Z8 prog _ _ (.cell 4 62) _:=ZH H R Wk R I.ra2 cq R
 have a3 : Z8 prog _ _ (.cell 5 53) _:=ZH H R ZD R I.ra1 (u_1 _) R
 have a4 : Z8 prog _ _ (.cell 6 53) _:=ZH H R ZD R I.ra0 (u_1 _) R
 have I:=I.pl3.f_1
 exact u_2 (k_ret4 H R a2 a3 a4 (Zy H R) ⟨_,R,ag,R,I.outF (Z1 Yj),I.kept⟩)
def VP (b : List UInt8) : Option ((List UInt8)) :=
 (JJ b 0).bind λc=>some c.2.2.2
theorem A8 (e : World) (f : List UInt8) (c : Value) (d : Ro e f [c]) (r : List UInt8) (hF : VP f = some r) :
  Calls prog 25 [c].toArray e (e_r λv w'=>(∃ h : Value,v = h ∧ Fr e w' [osl NoB r h] ∧ Kept (Old e) e w')):=by
 refine ce func25 ?_
 intro a H
 have I:=M.start e
 unfold VP at hF
 refine Zb (Zc H R λa H=>Ze (Zb (Zd H R λa H=>?_)))
 obtain ⟨b,i,hF⟩:=p_1 hF
 refine Zn H R (cbm func107) (Zca _ f c (I.rdo d) 0 b i) ?_
 rintro v w a ⟨j,rfl,hFr,hK⟩ H
 have I:=I.add hK hFr
 refine Zd H R λa H=>ZM H Za ld R R λa H=>ZM H Za ld R R λa H=>ZM H Za ld R R λa H=>ZM H Za ld R R λa H=>Zx H I Wk λk w a I H=>Zx H I ZD λl w a I H=>Zx H I ZD λm w a I H=>?_
 have I:=I.pl2
 refine Zk (seg:=cat [[vI b.1.Field],enc b.1.Box,enc b.1.Mix,enc b.1.Places,[vI b.1.Rounds]]) (cs':=cat [[vI b.1.Field],enc b.1.Box,enc b.1.Mix,enc b.1.Places,[vI b.1.Rounds]]) H I Za R R R Wk cq (q_1 cq cq) (Z0 (cc1 (t_1 (b.1.Field : Int)) (cc1 (t_1 _) (cc1 (t_1 _) (cc1 (t_1 _) (cc1 (t_1 (b.1.Rounds : Int)) cc0)))))) (q_2 cq cq) λw a I H=>?_
 have I:=I.pl2
 refine s_w b.2.1 H I Za R R R ZD λw a I H=>?_
 have I:=I.pl2
 refine s_w b.2.2.1 H I Za R R R ZD λw a I H=>Zc H R λa H=>Ze (Zb (Zd H R λa H=>Zc H R λa H=>Ze ?_))
 obtain rfl:=o_1 hF
 have I:=I.pl3.f_1
 exact u_2 (ZT H R (Zy H R) ⟨_,R,j,R,I.outF (Z1 Yj),I.kept⟩)
def HB (d : List UInt8) (b : Int × Int) : Option (Fl (Int × Int) Int) :=
 if decide (b.2 < (d.length : Int)) then ((idx d b.2).bind λc=>some (Fl.nx (IntKind.u64.wrap ((IntKind.u64.wrap ((IntKind.u64.wrap (b.1 * 1099511628211)) + (bI c))) + 5),wr (b.2 + 1)))) else (some (Fl.ex b.1))
def Hb (b : List UInt8) (c : Int) : Option ((Int × Int)) :=
 (ZK (HB b) (IntKind.u64.wrap ((IntKind.u64.wrap (c * 6907)) + (IntKind.u64.wrap (b.length : Int))),0)).bind λd=>some (0,d)
theorem Zif (St : Nat → Prop) (W x : World) (n : Item) (j : List UInt8) (c : Value) (d : Rep.sat St W j [c] []) (k : Int) (I : M St W x [n]) (r : xr) (hF : Hb j k = some r) :
  Calls prog 26 [c,Value.int .u64 k].toArray x (e_r λv w'=>(∃ (b : Nat),v = ptr b 0 ∧ M St W w' [raw b (cat [[c],[vI r.1],[Value.int .u64 r.2]]),n])):=by
 refine ce func26 ?_
 intro a H
 unfold Hb at hF
 refine Zb (Zc H R λa H=>Ze (Zb (Zd H R λa H=>Zd H R λa H=>Zm H R R R λa H=>Zd H R λa H=>Yp H R o_2 (I.rd d) λa H=>BD H Za ld R o_6 u_6 λa H=>Zm H R R R λa H=>YQ (parts:=[(0,.tmp 7),(2,.tmp 13)]) (vs:=[(0,c),(2,Value.int .u64 (IntKind.u64.wrap ((IntKind.u64.wrap (k * 6907)) + (IntKind.u64.wrap (j.length : Int)))))]) (cs:=cat [[c],[vI 0],[Value.int .u64 (IntKind.u64.wrap ((IntKind.u64.wrap (k * 6907)) + (IntKind.u64.wrap (j.length : Int))))]]) H Za ld R R Zli pl148 (Yk (pre:=[]) (seg:=[xf]) (seg':=[c]) (post:=[[vI 0],[Value.int .u64 0]]) R cl0 R R (Ym (I.rd d)) (Yk (pre:=[[c],[vI 0]]) (seg:=[Value.int .u64 0]) (seg':=[Value.int .u64 (IntKind.u64.wrap ((IntKind.u64.wrap (k * 6907)) + (IntKind.u64.wrap (j.length : Int))))]) (post:=[]) R ck R R R XL)) λa H=>ZY (cs:=cat [[c],[vI 0],[Value.int .u64 (IntKind.u64.wrap ((IntKind.u64.wrap (k * 6907)) + (IntKind.u64.wrap (j.length : Int))))]]) H I Za ld R R λl w a I H=>Zc H R λa H=>Ze (s_2 (Zb (Zc H R λa H=>?_))))))
 refine Ze ?_
 obtain ⟨y,o,q⟩:=p_1 hF
 refine ZX (λa w=>Env 38 a [(5,ptr l 0)] ∧ M St W w [raw l (cat [[c],[vI 0],[Value.int .u64 y]]),n]) ?_ ?_
 ·refine p_2 ?_
  refine ZN (λ(h : Int × Int) a w=>Env 38 a [(0,c),(5,ptr l 0),(6,vI h.2)] ∧ M St W w [raw l (cat [[c],[vI 0],[Value.int .u64 h.1]]),n]) o ⟨H.s,I⟩ ?_
  rintro h a w ⟨H,I⟩ A e t
  unfold HB at e
  refine s_2 (Zb (Zd H R λa H=>Zd H R λa H=>Yp H R o_2 (I.rd d) λa H=>Zm H R R R λa H=>Ze ?_))
  refine c_if H R e ?_ ?_
  ·intro m e
   refine t_2 (Zw (s_2 (p_2 ?_)))
   obtain ⟨f,i,e⟩:=bix e
   refine Z7 [22,23,24,25,26,27,28,29,30,31,32,33,34,35,36] YJ R R dd_ R H I (q_m (λ_=>R) (q_m (λ_=>R) (qsP (λz=>Ya z.E Za ld R (kr0 R)) (qsP (λz=>Zo z.E Za ld R (jx) (kr0 R)) (qsP (λz=>ZL (v:=(Value.int .u64 h.1)) z.E Za ld R qO R (at_2 (z.M.ra0)) (kr0 R)) (qsP (v:=(Value.int .u64 (IntKind.u64.wrap (h.1 * 1099511628211)))) (λz=>Ye z.E Za ld R R R (kr0 R)) (q_m (λ_=>R) (q_m (λ_=>R) (qsP (λz=>XD z.E Za ld R R o_2 ty5 (z.M.rd d) i.1 (kr0 R)) (qsP (λz=>ZL (v:=(vB f)) z.E Za ld R ty5 R (Xx (z.M.rd d) i.2) (kr0 R)) (qsP (λz=>Zlb z.E Za ld R t_3 u_6 (kr0 R)) (qsP (v:=(Value.int .u64 (IntKind.u64.wrap ((IntKind.u64.wrap (h.1 * 1099511628211)) + (bI f))))) (λz=>Ye z.E Za ld R R R (kr0 R)) (qsP (v:=(Value.int .u64 (IntKind.u64.wrap ((IntKind.u64.wrap ((IntKind.u64.wrap (h.1 * 1099511628211)) + (bI f))) + 5)))) (λz=>Ye z.E Za ld R R R (kr0 R)) (qsP (λz=>Ya z.E Za ld R (kr0 R)) (qsP (λz=>Zo z.E Za ld R (jx) (kr0 R)) qs0))))))))))))))) ?_
   ·intro a w u H I
    refine Zk (seg:=[Value.int .u64 (IntKind.u64.wrap ((IntKind.u64.wrap ((IntKind.u64.wrap (h.1 * 1099511628211)) + (bI f))) + 5))]) H I Za R R R qO R (Wl (pre:=[[c],[vI 0]]) ck R) Zaa (YL (pre:=[[c],[vI 0]]) ck R) λw a I H=>Zf (Yn (Zw (s_1 (Zd H R λa H=>Zm H R R R λa H=>Zc H R λa H=>Zf (Zi ?_)))))
    exact ⟨_,ois e,H.s,I⟩
  intro m e
  refine s_3 (Zp (Zp (Yv ?_)))
  obtain rfl:=t _ (ois e)
  refine Zi ?_
  exact ⟨H.s,I⟩
 rintro a w ⟨H,I⟩
 refine Zw (Zb (Zd H R λa H=>Zc H R λa H=>Ze ?_))
 obtain rfl:=o_1 q
 exact u_2 (ZT H R (Zy H R) ⟨_,R,l,R,I⟩)
def XC (c : List UInt8) (b : (Int × Int)) (d : Int) : Option ((Int × Int) × Int) :=
 if decide (d < 1) then (some ((b.1,b.2),0)) else (((some (decide (b.1 < (c.length : Int))) : Option (Bool)).bind λi=>if i then (((idx c b.1).bind λe=>some (wr ((IntKind.i64.wrap (wru (BitVec.ofInt 64 (Qp (IntKind.u64.wrap ((IntKind.u64.wrap (b.2 * 6364136223846793005)) + 1442695040888963407)) 33) &&& BitVec.ofInt 64 16777215).toNat)) + (bI e))) : Option (Int)).bind λf=>some (wr (b.1 + 1),f)) else (some (b.1,IntKind.i64.wrap (wru (BitVec.ofInt 64 (Qp (IntKind.u64.wrap ((IntKind.u64.wrap (b.2 * 6364136223846793005)) + 1442695040888963407)) 33) &&& BitVec.ofInt 64 16777215).toNat))) : Option (Int × Int)).bind λh=>(Bu d).bind λ_=>some ((h.1,IntKind.u64.wrap ((IntKind.u64.wrap (b.2 * 6364136223846793005)) + 1442695040888963407)),Int.tmod h.2 d))
theorem Tx (St : Nat → Prop) (W C : World) (m : Item) (d : Nat) (i : List UInt8) (b : Value) (e : Rep.sat St W i [b] []) (c : xr) (n : Int) (I : M St W C [raw d (cat [[b],[vI c.1],[Value.int .u64 c.2]]),m]) (r : xr × Int) (hF : XC i c n = some r) :
  Calls prog 29 [ptr d 0,vI n].toArray C (e_r λv w'=>(v = (vI r.2) ∧ M St W w' [raw d (cat [[b],[vI r.1.1],[Value.int .u64 r.1.2]]),m])):=by
 refine ce func29 ?_
 intro a H
 unfold XC at hF
 refine Zb (Zc H R λa H=>Ze (s_2 (Zb (Zd H R λa H=>Zm H R R R λa H=>Ze ?_))))
 refine c_if H R hF ?_ ?_
 ·intro x hF
  refine Zb (Zc H R λa H=>Ze ?_)
  obtain rfl:=o_1 hF
  exact u_2 (ZA (ZT H R (Zy H R) ⟨_,R,R,I⟩))
 intro x hF
 refine t_2 (Zw (Zb (Zd H R λa H=>Zd H R λa H=>Ya H Za ld R λa H=>Zr H R (jx) λa H=>ZO (v:=(Value.int .u64 c.2)) H R qO R (at_2 I.ra0) λa H=>Zm H R R R λa H=>Zm H R R R λa H=>Ya H Za ld R λa H=>Zr H R (jx) λa H=>Zk (seg:=[Value.int .u64 (IntKind.u64.wrap ((IntKind.u64.wrap (c.2 * 6364136223846793005)) + 1442695040888963407))]) H I Za R R R qO R (Wl (pre:=[[b],[vI c.1]]) ck R) Zaa (YL (pre:=[[b],[vI c.1]]) ck R) λw a I H=>Ze (Zb (Zd H R λa H=>Ya H Za ld R λa H=>?_)))))
 refine Zr H R (jx) λa H=>ZO (v:=(Value.int .u64 (IntKind.u64.wrap ((IntKind.u64.wrap (c.2 * 6364136223846793005)) + 1442695040888963407)))) H R qO R (at_2 I.ra0) λa H=>yd H Za ld R R (Zod _ _ dd_) λa H=>Zm H R R R λa H=>BD H Za ld R u_6 t_4 λa H=>Zc H R λa H=>Ze ?_
 obtain ⟨F,y,k⟩:=p_1 hF
 refine ZG (λa w=>Env 58 a [(1,vI n),(5,vI F.2)] ∧ M St W w [raw d (cat [[b],[vI F.1],[Value.int .u64 (IntKind.u64.wrap ((IntKind.u64.wrap (c.2 * 6364136223846793005)) + 1442695040888963407))]]),m]) ?_ ?_
 ·obtain ⟨G,A,f⟩:=p_1 y
  refine ZG (λa w=>Env 58 a [(0,ptr d 0),(1,vI n),(5,vI (IntKind.i64.wrap (wru (BitVec.ofInt 64 (Qp (IntKind.u64.wrap ((IntKind.u64.wrap (c.2 * 6364136223846793005)) + 1442695040888963407)) 33) &&& BitVec.ofInt 64 16777215).toNat))),(33,vT G)] ∧ M St W w [raw d (cat [[b],[vI c.1],[Value.int .u64 (IntKind.u64.wrap ((IntKind.u64.wrap (c.2 * 6364136223846793005)) + 1442695040888963407))]]),m]) ?_ ?_
  ·refine Z7 [24,25,26,27,28,29,30,31,32,33] YJ R R dd_ R H I (q_m (λ_=>R) (qsP (λz=>Ya z.E Za ld R (kr0 R)) (qsP (λz=>Zo z.E Za ld R (Zac) (kr0 R)) (qsP (λz=>ZL (v:=(vI c.1)) z.E Za ld R ty3 R (at_1 (z.M.ra0)) (kr0 R)) (q_m (λ_=>R) (qsP (λz=>Ya z.E Za ld R (kr0 R)) (qsP (λz=>Zo z.E Za ld R (Zkm) (kr0 R)) (qsP (λz=>ZL (v:=b) z.E Za ld R Uf R (at_0 (z.M.ra0)) (kr0 R)) (qsP (λz=>Q7 z.E Za ld R o_2 (z.M.rd e) (kr0 R)) (qsP (λz=>Ye z.E Za ld R R R (kr0 R)) qs0)))))))))) ?_
   ·intro a w u H I
    refine Zf ?_
    obtain rfl:=o_1 A
    refine Zi ?_
    exact ⟨H.s,I⟩
  rintro a w ⟨H,I⟩
  refine c_if H R f ?_ ?_
  ·intro o f
   obtain ⟨B,h,q⟩:=p_1 f
   refine ZG (λa w=>Env 58 a [(0,ptr d 0),(1,vI n),(5,vI B)] ∧ M St W w [raw d (cat [[b],[vI c.1],[Value.int .u64 (IntKind.u64.wrap ((IntKind.u64.wrap (c.2 * 6364136223846793005)) + 1442695040888963407))]]),m]) ?_ ?_
   ·obtain ⟨t,j,h⟩:=bix h
    refine Z7 [34,35,36,37,38,39,40,41,42,43,44,45,46] YJ R R dd_ R H I (q_m (λ_=>R) (q_m (λ_=>R) (qsP (λz=>Ya z.E Za ld R (kr0 R)) (qsP (λz=>Zo z.E Za ld R (Zkm) (kr0 R)) (qsP (λz=>ZL (v:=b) z.E Za ld R Uf R (at_0 (z.M.ra0)) (kr0 R)) (q_m (λ_=>R) (qsP (λz=>Ya z.E Za ld R (kr0 R)) (qsP (λz=>Zo z.E Za ld R (Zac) (kr0 R)) (qsP (λz=>ZL (v:=(vI c.1)) z.E Za ld R ty3 R (at_1 (z.M.ra0)) (kr0 R)) (qsP (λz=>XD z.E Za ld R R o_2 ty5 (z.M.rd e) j.1 (kr0 R)) (qsP (λz=>ZL (v:=(vB t)) z.E Za ld R ty5 R (Xx (z.M.rd e) j.2) (kr0 R)) (qsP (λz=>zL z.E Za ld R t_3 t_4 (kr0 R)) (qsP (v:=(vI (wr ((IntKind.i64.wrap (wru (BitVec.ofInt 64 (Qp (IntKind.u64.wrap ((IntKind.u64.wrap (c.2 * 6364136223846793005)) + 1442695040888963407)) 33) &&& BitVec.ofInt 64 16777215).toNat)) + (bI t))))) (λz=>Ye z.E Za ld R R R (kr0 R)) qs0))))))))))))) ?_
    ·intro a w u H I
     refine Zc H R λa H=>Zf ?_
     obtain rfl:=o_1 h
     refine Zi ?_
     exact ⟨H.s,I⟩
   rintro a w ⟨H,I⟩
   refine s_1 (Zd H R λa H=>Zd H R λa H=>Ya H Za ld R λa H=>Zr H R (Zac) λa H=>ZO (v:=(vI c.1)) H R ty3 R (at_1 I.ra0) λa H=>Zm H R R R λa H=>Ya H Za ld R λa H=>Zr H R (Zac) λa H=>Zk (seg:=[vI (wr (c.1 + 1))]) H I Za R R R ty3 R (Wl (pre:=[[b]]) ck R) (t_1 (wr (c.1 + 1) : Int)) (YL (pre:=[[b]]) ck R) λw a I H=>Zf ?_)
   obtain rfl:=o_1 q
   refine Zi ?_
   exact ⟨H.s,I⟩
  intro o f
  refine t_2 ?_
  obtain rfl:=o_1 f
  refine Zi ?_
  exact ⟨H.s,I⟩
 rintro a w ⟨H,I⟩
 refine Zb (Zd H R λa H=>Zd H R λa H=>?_)
 obtain ⟨_,l,k⟩:=p_1 k
 have l:=yW l
 refine Zm H R R (J2 _ _ l) λa H=>Zc H R λa H=>Ze ?_
 obtain rfl:=o_1 k
 exact u_2 (ZT H R (Zy H R) ⟨_,R,R,I⟩)
def JH (d : List UInt8) (b : V16 × Int × Int × Int) : Option (Fl (V16 × Int × Int × Int) (V16 × Int × Int)) :=
 if decide (b.2.2.2 < 16) then ((XC d (b.2.1,b.2.2.1) 256).bind λc=>(ZP b.1 b.2.2.2).bind λe=>some (Fl.nx ((b.1.setIfInBounds (b.2.2.2).toNat (Zz c.2)),c.1.1,c.1.2,wr (b.2.2.2 + 1)))) else (some (Fl.ex (b.1,b.2.1,b.2.2.1)))
def QY (b : List UInt8) (d : (Int × Int)) : Option ((Int × Int) × V16) :=
 (ZK (JH b) ((Vector.replicate 16 (0 : UInt8)),d.1,d.2,0)).bind λc=>some ((c.2.1,c.2.2),c.1)
theorem yb (St : Nat → Prop) (W C : World) (o : Item) (d : Nat) (f : List UInt8) (c : Value) (j : Rep.sat St W f [c] []) (y : xr) (I : M St W C [raw d (cat [[c],[vI y.1],[Value.int .u64 y.2]]),o]) (r : xr × V16) (hF : QY f y = some r) :
  Calls prog 27 [ptr d 0].toArray C (e_r λv w'=>(v = (Value.agg (enc r.2).toArray) ∧ M St W w' [raw d (cat [[c],[vI r.1.1],[Value.int .u64 r.1.2]]),o])):=by
 refine ce func27 ?_
 intro a H
 unfold QY at hF
 refine Zb (Zx H I ZD λq w a I H=>Ze (Zb (Xi (parts:=[]) (vs:=[]) (cs:=enc xb) H Za ld R R ZD R ty5 YK λa H=>Zx H I ZD λt w a I H=>s_w xb H I Za R R R ZD λw a I H=>Ze (s_2 (Zb (Zc H R λa H=>Ze ?_))))))
 obtain ⟨u,z,A⟩:=p_1 hF
 refine ZX (λa w=>Env 16 a [(2,ptr q 0),(3,ptr t 0)] ∧ M St W w [raw t (enc u.1),raw q xi,raw d (cat [[c],[vI u.2.1],[Value.int .u64 u.2.2]]),o]) ?_ ?_
 ·refine p_2 ?_
  refine ZN (λ(h : V16 × Int × Int × Int) a w=>Env 16 a [(0,ptr d 0),(2,ptr q 0),(3,ptr t 0),(4,vI h.2.2.2)] ∧ M St W w [raw t (enc h.1),raw q xi,raw d (cat [[c],[vI h.2.1],[Value.int .u64 h.2.2.1]]),o]) z ⟨H.s,I⟩ ?_
  rintro h a w ⟨H,I⟩ E b k
  unfold JH at b
  refine s_2 (Zb (Zd H R λa H=>Zm H R R R λa H=>Ze ?_))
  refine c_if H R b ?_ ?_
  ·intro l b
   refine t_2 (Zw (s_2 (p_2 (s_1 (Zd H R λa H=>Zd H R λa H=>?_)))))
   have I:=M.tailP (m:=[_]) I.pl2
   obtain ⟨e,B,b⟩:=p_1 b
   refine Zn H R cb29 (Tx _ _ _ _ d f c j (h.2.1,h.2.2.1) 256 I e B) ?_
   rintro v w a ⟨rfl,I⟩ H
   have I:=M.tailU (m:=[_]) I
   simp only [l_c,l_n] at I
   refine Xq H Za ld R t_4 t_3 λa H=>?_
   obtain ⟨F,i,b⟩:=bvx b
   refine ZC H R R u_3 ty5 i.1 λa H=>?_
   have I:=I.pl1
   refine Zk (seg:=[vB (Zz e.2)]) (cs':=enc (h.1.setIfInBounds (h.2.2.2).toNat (Zz e.2))) H I Za R R R ty5 R (ZS (v:=h.1) (x:=Zz e.2) i.1) (t_1 (Zz e.2 : UInt8)) (ZF (v:=h.1) (x:=Zz e.2) i.1) λw a I H=>Zf (Yn (Zw (s_1 (Zd H R λa H=>Zm H R R R λa H=>Zc H R λa H=>Zf (Zi ?_)))))
   have I:=I.pl3.pl2.pl3.pl3
   exact ⟨_,ois b,H.s,I⟩
  intro l b
  refine s_3 (Zp (Zp (Yv ?_)))
  obtain rfl:=k _ (ois b)
  refine Zi ?_
  exact ⟨H.s,I⟩
 rintro a w ⟨H,I⟩
 refine Zw (Zb (Zu H R ZD R I.ra0 (u_1 _) λa H=>?_))
 have I:=I.pl1
 refine s_w u.1 H I Za R R R ZD λw a I H=>Ze ?_
 obtain rfl:=o_1 A
 have n : Z8 prog _ _ (.cell 2 53) _:=ZH H R ZD R I.ra0 (u_1 _) R
 have I:=((I.pl3.pl3.pl3).drop.pl2).drop
 exact u_2 (ZT H R n ⟨_,R,R,I⟩)
def Yy (b : Int) (c : Int) (d : Int) : Option (Bool) :=
 (if decide (c ≤ b) then (some (decide (b ≤ d))) else (some false) : Option (Bool)).bind λe=>some e
theorem Yw (d : World) (e : Int) (f : Int) (i : Int) (r : Bool) (hF : Yy e f i = some r) :
  Calls prog 108 [vI e,vI f,vI i].toArray d (Rt d (vT r)):=by
 refine ce func108 ?_
 intro a H
 have I:=M.start d
 unfold Yy at hF
 refine Zb (Zc H R λa H=>Ze ?_)
 obtain ⟨j,c,h⟩:=p_1 hF
 refine ZG (λa w=>Env 15 a [(6,vT j)] ∧ M (Old d) d w []) ?_ ?_
 ·refine s_1 (Zd H R λa H=>Zd H R λa H=>Zm H R R R λa H=>Zd H R λa H=>?_)
  refine Yq (decide (f ≤ e)) (λb=>?_) (λb=>?_)
  ·have c:=Zt c b
   refine Zl H (Zh H R (lkb R b)) dd_ R λa H=>Zl H (Zh H R (lkb R b)) dd_ R λa H=>Ye H (Zh H R (lkb R b)) dd_ R R R λa H=>Z2 H (lkb R b) R λa H=>Zc H R λa H=>Zf ?_
   obtain rfl:=o_1 c
   refine Zi ?_
   exact ⟨H.s,I⟩
  have c:=Zs c b
  refine k_s H b R R R λa H=>k_s H b R R R λa H=>k_s H b R R R λa H=>ZZ H (lkb R b) R λa H=>Zc H R λa H=>Zf ?_
  obtain rfl:=o_1 c
  refine Zi ?_
  exact ⟨H.s,I⟩
 rintro a w ⟨H,I⟩
 obtain rfl:=o_1 h
 exact u_2 (kr1 H R R I.kept)
def WS (e : Int) (c : Int) (b : Int × Int) : Option (Fl (Int × Int) Int) :=
 if decide (b.2 ≥ c) then (((XM b.2).bind λ_=>(if (Zin (Qp b.1 b.2) 1) == 1 then ((XM (wr (b.2 - c))).bind λ_=>some (BY b.1 (BJ e (wr (b.2 - c))))) else (some b.1) : Option (Int)).bind λd=>some d : Option (Int)).bind λf=>some (Fl.nx (f,wr (b.2 - 1)))) else (some (Fl.ex b.1))
def Qc (b : Int) (c : Int) (d : Int) : Option (Int) :=
 (ZK (WS c d) (b,15)).bind λe=>some e
theorem kT (d : World) (y : Int) (i : Int) (j : Int) (r : Int) (hF : Qc y i j = some r) :
  Calls prog 214 [vI y,vI i,vI j].toArray d (Rt d (vI r)):=by
 refine ce func214 ?_
 intro a H
 have I:=M.start d
 unfold Qc at hF
 refine Zb (Zc H R λa H=>Ze (s_2 (Zb (Zc H R λa H=>Ze ?_))))
 obtain ⟨z,o,q⟩:=p_1 hF
 refine ZX (λa w=>Env 26 a [(0,vI z)] ∧ M (Old d) d w []) ?_ ?_
 ·refine p_2 ?_
  refine ZN (λ(k : Int × Int) a w=>Env 26 a [(0,vI k.1),(1,vI i),(2,vI j),(7,vI k.2)] ∧ M (Old d) d w []) o ⟨H.s,I⟩ ?_
  rintro k a w ⟨H,I⟩ B c t
  unfold WS at c
  refine s_2 (Zb (Zd H R λa H=>Zd H R λa H=>Zm H R R R λa H=>Ze ?_))
  refine c_if H R c ?_ ?_
  ·intro u c
   refine t_2 (Zw ?_)
   obtain ⟨A,e,l⟩:=p_1 c
   refine ZG (λa w=>Env 26 a [(0,vI A),(1,vI i),(2,vI j),(7,vI k.2)] ∧ M (Old d) d w []) ?_ ?_
   ·refine p_2 (Zb (Zd H R λa H=>Zd H R λa H=>?_))
    obtain ⟨_,f,e⟩:=p_1 e
    have f:=VG f
    refine yd H Za ld R R (Ze4 _ _ f) λa H=>Zm H R R R λa H=>Zm H R R R λa H=>Ze ?_
    obtain ⟨x,b,m⟩:=p_1 e
    refine ZX (λa w=>Env 26 a [(0,vI x),(1,vI i),(2,vI j),(7,vI k.2)] ∧ M (Old d) d w []) ?_ ?_
    ·refine c_if H R b ?_ ?_
     ·intro n b
      refine s_1 (Zd H R λa H=>Zd H R λa H=>Zd H R λa H=>Zd H R λa H=>Zm H R R R λa H=>?_)
      obtain ⟨_,h,b⟩:=p_1 b
      have h:=VG h
      refine yd H Za ld R R (kK _ _ h) λa H=>Zm H R R R λa H=>Zc H R λa H=>Zf ?_
      obtain rfl:=o_1 b
      refine Zi ?_
      exact ⟨H.s,I⟩
     intro n b
     refine t_2 ?_
     obtain rfl:=o_1 b
     refine Zi ?_
     exact ⟨H.s,I⟩
    rintro a w ⟨H,I⟩
    refine Yn ?_
    obtain rfl:=o_1 m
    refine Zi ?_
    exact ⟨H.s,I⟩
   rintro a w ⟨H,I⟩
   refine s_1 (Zd H R λa H=>Zm H R R R λa H=>Zc H R λa H=>Zf (Zi ?_))
   exact ⟨_,ois l,H.s,I⟩
  intro u c
  refine s_3 (Zp (Zp (Yv ?_)))
  obtain rfl:=t _ (ois c)
  refine Zi ?_
  exact ⟨H.s,I⟩
 rintro a w ⟨H,I⟩
 refine Zw (Zb (Zd H R λa H=>Zc H R λa H=>Ze ?_))
 obtain rfl:=o_1 q
 exact u_2 (kr1 H R R I.kept)
def YT (d : UInt8) (e : UInt8) (b : Int × Int) : Option (Fl (Int × Int) Int) :=
 if decide (b.2 < 8) then (((XM b.2).bind λ_=>(if ((qn e b.2) &&& 1) == 1 then ((XM b.2).bind λ_=>some (BY b.1 (BJ (bI d) b.2))) else (some b.1) : Option (Int)).bind λc=>some c : Option (Int)).bind λf=>some (Fl.nx (f,wr (b.2 + 1)))) else (some (Fl.ex b.1))
def Z5 (c : Int) (d : UInt8) (e : UInt8) : Option (UInt8) :=
 (ZK (YT d e) (0,0)).bind λf=>(Qc f c 8).bind λb=>some (Zz b)
theorem YR (d : World) (f : Int) (m : UInt8) (h : UInt8) (r : UInt8) (hF : Z5 f m h = some r) :
  Calls prog 289 [vI f,vB m,vB h].toArray d (Rt d (vB r)):=by
 refine ce func289 ?_
 intro a H
 have I:=M.start d
 unfold Z5 at hF
 refine Zb (Zc H R λa H=>Ze (Zb (Zc H R λa H=>Ze (s_2 (Zb (Zd H R λa H=>Ze ?_))))))
 obtain ⟨B,t,i⟩:=p_1 hF
 refine ZX (λa w=>Env 28 a [(0,vI f),(7,vI B)] ∧ M (Old d) d w []) ?_ ?_
 ·refine p_2 ?_
  refine ZN (λ(j : Int × Int) a w=>Env 28 a [(0,vI f),(1,vB m),(2,vB h),(7,vI j.1),(9,vI j.2)] ∧ M (Old d) d w []) t ⟨H.s,I⟩ ?_
  rintro j a w ⟨H,I⟩ E c u
  unfold YT at c
  refine Zb (Zm H R R R λa H=>Ze (s_2 ?_))
  refine c_if H R c ?_ ?_
  ·intro x c
   refine t_2 (Zw ?_)
   obtain ⟨C,e,n⟩:=p_1 c
   refine ZG (λa w=>Env 28 a [(0,vI f),(1,vB m),(2,vB h),(7,vI C),(9,vI j.2)] ∧ M (Old d) d w []) ?_ ?_
   ·refine p_2 (Zb (Zd H R λa H=>Zc H R λa H=>Ze (Zb (Zd H R λa H=>Zd H R λa H=>?_))))
    obtain ⟨_,k,e⟩:=p_1 e
    have k:=VG k
    refine yd H Za ld R R (Znn _ _ k) λa H=>Zm H R R (bB_and (qn h j.2) 1) λa H=>Zm H R R (Zfd ((qn h j.2) &&& 1) 1) λa H=>Ze ?_
    obtain ⟨y,b,o⟩:=p_1 e
    refine ZX (λa w=>Env 28 a [(0,vI f),(1,vB m),(2,vB h),(7,vI y),(9,vI j.2)] ∧ M (Old d) d w []) ?_ ?_
    ·refine c_if H R b ?_ ?_
     ·intro q b
      refine s_1 (Zd H R λa H=>Zd H R λa H=>zL H Za ld R t_3 t_4 λa H=>Zd H R λa H=>?_)
      obtain ⟨_,l,b⟩:=p_1 b
      have l:=VG l
      refine yd H Za ld R R (kK _ _ l) λa H=>Zm H R R R λa H=>Zc H R λa H=>Zf ?_
      obtain rfl:=o_1 b
      refine Zi ?_
      exact ⟨H.s,I⟩
     intro q b
     refine t_2 ?_
     obtain rfl:=o_1 b
     refine Zi ?_
     exact ⟨H.s,I⟩
    rintro a w ⟨H,I⟩
    refine Yn ?_
    obtain rfl:=o_1 o
    refine Zi ?_
    exact ⟨H.s,I⟩
   rintro a w ⟨H,I⟩
   refine s_1 (Zm H R R R λa H=>Zd H R λa H=>Zf (Zi ?_))
   exact ⟨_,ois n,H.s,I⟩
  intro x c
  refine s_3 (Zp (Zp (Yv ?_)))
  obtain rfl:=u _ (ois c)
  refine Zi ?_
  exact ⟨H.s,I⟩
 rintro a w ⟨H,I⟩
 refine Zw (Zb (Zd H R λa H=>Zd H R λa H=>?_))
 obtain ⟨z,A,i⟩:=p_1 i
 refine c_k H I R (cbm func214) (kT _ B f 8 z A) λw a I H=>?_
 refine Xq H Za ld R t_4 t_3 λa H=>Zc H R λa H=>Ze ?_
 obtain rfl:=o_1 i
 exact u_2 (kr1 H R R I.kept)
def TJ (f : Int) (b : UInt8 × Int × UInt8) : Option (Fl (UInt8 × Int × UInt8) UInt8) :=
 if decide (b.2.1 > 0) then (((if (Int.tmod b.2.1 2) == 1 then ((Z5 f b.2.2 b.1).bind λc=>some c) else (some b.2.2) : Option (UInt8)).bind λd=>(Z5 f b.1 b.1).bind λe=>some (e,d) : Option (UInt8 × UInt8)).bind λh=>some (Fl.nx (h.1,wr (Int.tdiv b.2.1 2),h.2))) else (some (Fl.ex b.2.2))
def Vw (b : Int) (c : UInt8) (d : Int) : Option (UInt8) :=
 (ZK (TJ b) (c,d,1)).bind λe=>some e
theorem yB (d : World) (h : Int) (z : UInt8) (A : Int) (r : UInt8) (hF : Vw h z A = some r) :
  Calls prog 270 [vI h,vB z,vI A].toArray d (Rt d (vB r)):=by
 refine ce func270 ?_
 intro a H
 have I:=M.start d
 unfold Vw at hF
 refine Zb (Zc H R λa H=>Ze (Zb (Zc H R λa H=>Ze ?_)))
 obtain ⟨C,l,m⟩:=p_1 hF
 refine ZG (λa w=>Env 24 a [(7,vB C)] ∧ M (Old d) d w []) ?_ ?_
 ·refine p_2 ?_
  refine ZN (λ(e : UInt8 × Int × UInt8) a w=>Env 24 a [(0,vI h),(1,vB e.1),(2,vI e.2.1),(7,vB e.2.2)] ∧ M (Old d) d w []) l ⟨H.s,I⟩ ?_
  rintro e a w ⟨H,I⟩ E c n
  unfold TJ at c
  refine s_2 (Zb (Zd H R λa H=>Zm H R R R λa H=>Ze ?_))
  refine c_if H R c ?_ ?_
  ·intro o c
   refine t_2 (Zw ?_)
   obtain ⟨B,i,j⟩:=p_1 c
   refine ZG (λa w=>Env 24 a [(0,vI h),(1,vB B.1),(2,vI e.2.1),(7,vB B.2)] ∧ M (Old d) d w []) ?_ ?_
   ·refine p_2 ?_
    obtain ⟨q,b,f⟩:=p_1 i
    refine ZG (λa w=>Env 24 a [(0,vI h),(1,vB e.1),(2,vI e.2.1),(7,vB q)] ∧ M (Old d) d w []) ?_ ?_
    ·refine Zb (Zd H R λa H=>Zm H R R (J2 _ _ dd_) λa H=>Zm H R R R λa H=>Ze ?_)
     refine c_if H R b ?_ ?_
     ·intro k b
      refine s_1 (Zd H R λa H=>Zd H R λa H=>Zd H R λa H=>?_)
      obtain ⟨t,u,b⟩:=p_1 b
      refine c_k H I R A5 (YR _ h e.2.2 e.1 t u) λw a I H=>?_
      refine Zc H R λa H=>Zf ?_
      obtain rfl:=o_1 b
      refine Zi ?_
      exact ⟨H.s,I⟩
     intro k b
     refine t_2 ?_
     obtain rfl:=o_1 b
     refine Zi ?_
     exact ⟨H.s,I⟩
    rintro a w ⟨H,I⟩
    refine s_1 (Zd H R λa H=>Zd H R λa H=>Zd H R λa H=>?_)
    obtain ⟨x,y,f⟩:=p_1 f
    refine c_k H I R A5 (YR _ h e.1 e.1 x y) λw a I H=>?_
    refine Zc H R λa H=>Zf (Yn ?_)
    obtain rfl:=o_1 f
    refine Zi ?_
    exact ⟨H.s,I⟩
   rintro a w ⟨H,I⟩
   refine s_1 (Zd H R λa H=>Zm H R R (Zc4 _ _ dd_) λa H=>Zc H R λa H=>Zf (Zi ?_))
   exact ⟨_,ois j,H.s,I⟩
  intro o c
  refine s_3 (Zp (Zp (Yv ?_)))
  obtain rfl:=n _ (ois c)
  refine Zi ?_
  exact ⟨H.s,I⟩
 rintro a w ⟨H,I⟩
 refine Zb (Zd H R λa H=>Zc H R λa H=>Ze ?_)
 obtain rfl:=o_1 m
 exact u_2 (kr1 H R R I.kept)
def Y3 (b : Int) (c : UInt8) : Option (UInt8) :=
 (Vw b c 254).bind λd=>some d
theorem Ti (b : World) (c : Int) (d : UInt8) (r : UInt8) (hF : Y3 c d = some r) :
  Calls prog 201 [vI c,vB d].toArray b (Rt b (vB r)):=by
 refine ce func201 ?_
 intro a H
 have I:=M.start b
 unfold Y3 at hF
 refine Zb (Zc H R λa H=>Ze (Zb (Zd H R λa H=>Zd H R λa H=>?_)))
 obtain ⟨e,f,hF⟩:=p_1 hF
 refine c_k H I R (cbm func270) (yB _ c d 254 e f) λw a I H=>?_
 refine Zc H R λa H=>Ze ?_
 obtain rfl:=o_1 hF
 exact u_2 (kr1 H R R I.kept)
def Xd (c : UInt8) (b : Int) : Option (UInt8) :=
 (XM (wru (BitVec.ofInt 64 (IntKind.u64.wrap b) &&& BitVec.ofInt 64 7).toNat)).bind λ_=>(XM (IntKind.u64.wrap (8 - (wru (BitVec.ofInt 64 (IntKind.u64.wrap b) &&& BitVec.ofInt 64 7).toNat)))).bind λ_=>some ((shlB c (wru (BitVec.ofInt 64 (IntKind.u64.wrap b) &&& BitVec.ofInt 64 7).toNat)) ||| (qn c (IntKind.u64.wrap (8 - (wru (BitVec.ofInt 64 (IntKind.u64.wrap b) &&& BitVec.ofInt 64 7).toNat)))))
theorem Jy (d : World) (b : UInt8) (c : Int) (r : UInt8) (hF : Xd b c = some r) :
  Calls prog 202 [vB b,vI c].toArray d (Rt d (vB r)):=by
 refine ce func202 ?_
 intro a H
 have I:=M.start d
 unfold Xd at hF
 refine Zb (Zc H R λa H=>Ze (Zb (Zd H R λa H=>BD H Za ld R o_6 underlying151 λa H=>Zm H R R R λa H=>Zc H R λa H=>Ze (Zb (Zd H R λa H=>Zd H R λa H=>?_)))))
 obtain ⟨_,e,hF⟩:=p_1 hF
 have e:=VG e
 refine yd H Za ld R R (bB_shl _ _ e) λa H=>Zd H R λa H=>Zd H R λa H=>Zm H R R R λa H=>?_
 obtain ⟨_,f,hF⟩:=p_1 hF
 have f:=VG f
 refine yd H Za ld R R (Znn _ _ f) λa H=>Zm H R R (bB_or (shlB b (wru (BitVec.ofInt 64 (IntKind.u64.wrap c) &&& BitVec.ofInt 64 7).toNat)) (qn b (IntKind.u64.wrap (8 - (wru (BitVec.ofInt 64 (IntKind.u64.wrap c) &&& BitVec.ofInt 64 7).toNat))))) λa H=>Zc H R λa H=>Ze ?_
 obtain rfl:=o_1 hF
 exact u_2 (kr1 H R R I.kept)
def Uh (b : V256 × Int) : Option (Fl (V256 × Int) V256) :=
 if decide (b.2 < 256) then ((Y3 285 (Zz b.2)).bind λc=>(Xd c 1).bind λd=>(Xd c 4).bind λe=>(ZP b.1 b.2).bind λf=>some (Fl.nx ((b.1.setIfInBounds (b.2).toNat (((c ^^^ d) ^^^ e) ^^^ 90)),wr (b.2 + 1)))) else (some (Fl.ex b.1))
def TO (c : V44 × Int) (b : V44 × Int) : Option (Fl (V44 × Int) V44) :=
 if decide (b.2 < 4) then ((Y3 285 (Zz (BY c.2 (wr (4 + b.2))))).bind λe=>(ZP b.1 c.2).bind λd=>(ZP d b.2).bind λf=>some (Fl.nx ((b.1.setIfInBounds (c.2).toNat (d.setIfInBounds (b.2).toNat e)),wr (b.2 + 1)))) else (some (Fl.ex b.1))
def TQ (b : V44 × Int) : Option (Fl (V44 × Int) V44) :=
 if decide (b.2 < 4) then ((ZK (TO b) (b.1,0)).bind λc=>some (Fl.nx (c,wr (b.2 + 1)))) else (some (Fl.ex b.1))
def TN (b : V16 × Int) : Option (Fl (V16 × Int) V16) :=
 if decide (b.2 < 16) then ((ZP b.1 b.2).bind λc=>some (Fl.nx ((b.1.setIfInBounds (b.2).toNat (Zz (Int.tmod (wr ((wr (13 * b.2)) + 4)) 16))),wr (b.2 + 1)))) else (some (Fl.ex b.1))
def Vr (d : Int) : Option (GCipher) :=
 (ZK (Uh) ((Vector.replicate 256 (0 : UInt8)),0)).bind λe=>(ZK (TQ) ((Vector.replicate 4 (Vector.replicate 4 (0 : UInt8))),0)).bind λb=>(ZK (TN) ((Vector.replicate 16 (0 : UInt8)),0)).bind λc=>some (⟨285,e,b,c,d⟩ : GCipher)
theorem H9 (q : World) (c : Int) (r : GCipher) (hF : Vr c = some r) :
  Calls prog 109 [vI c].toArray q (Rt q (Value.agg (enc r).toArray)):=by
 refine ce func109 ?_
 intro a H
 have I:=M.start q
 unfold Vr at hF
 refine Zb (Zx H I Wk λB w a I H=>Ze (Zb (Zd H R λa H=>YQ (parts:=[(0,.const (vI 285)),(4,.tmp 9)]) (vs:=[(0,vI 285),(4,vI c)]) (cs:=cat [xw,enc xe,enc xc,enc xb,[vI c]]) H Za ld R R Wk pl62 (Yk (pre:=[]) (seg:=[vI 0]) (seg':=xw) (post:=[enc xe,enc xc,enc xb,[vI 0]]) R cl0 R R R (Yk (pre:=[xw,enc xe,enc xc,enc xb]) (seg:=[vI 0]) (seg':=[vI c]) (post:=[]) R ck R R R XL)) λa H=>Zx H I Wk λC w a I H=>Zk (seg:=cat [xw,enc xe,enc xc,enc xb,[vI c]]) (cs':=cat [xw,enc xe,enc xc,enc xb,[vI c]]) H I Za R R R Wk cq (q_1 cq cq) (Z0 (cc1 (t_1 (285 : Int)) (cc1 (t_1 _) (cc1 (t_1 _) (cc1 (t_1 _) (cc1 (t_1 (c : Int)) cc0)))))) (q_2 cq cq) λw a I H=>Ze (s_2 (Zb (Zd H R λa H=>Ze ?_))))))
 obtain ⟨k,ai,aj⟩:=p_1 hF
 refine ZX (λa w=>Env 61 a [(2,ptr B 0),(3,ptr C 0)] ∧ M (Old q) q w [raw C (cat [xw,enc k,enc xc,enc xb,[vI c]]),raw B xh]) ?_ ?_
 ·refine p_2 ?_
  refine ZN (λ(L : V256 × Int) a w=>Env 61 a [(2,ptr B 0),(3,ptr C 0),(11,vI L.2)] ∧ M (Old q) q w [raw C (cat [xw,enc L.1,enc xc,enc xb,[vI c]]),raw B xh]) ai ⟨H.s,I⟩ ?_
  rintro L a w ⟨H,I⟩ ap h O
  unfold Uh at h
  refine Zb (Zm H R R R λa H=>Ze (s_2 ?_))
  refine c_if H R h ?_ ?_
  ·intro T h
   refine t_2 (Zw (s_2 (p_2 (Zb (Zd H R λa H=>Zc H R λa H=>Ze (Zb (Zd H R λa H=>Xq H Za ld R o_6 t_3 λa H=>?_)))))))
   obtain ⟨l,ak,h⟩:=p_1 h
   refine c_k H I R Zkt (Ti _ 285 (Zz L.2) l ak) λw a I H=>?_
   refine Zc H R λa H=>Ze (s_1 (Zd H R λa H=>Zd H R λa H=>Zd H R λa H=>?_))
   obtain ⟨n,al,h⟩:=p_1 h
   refine c_k H I R (cbm func202) (Jy _ l 1 n al) λw a I H=>?_
   refine Zm H R R (VH l n) λa H=>Zd H R λa H=>?_
   obtain ⟨t,am,h⟩:=p_1 h
   refine c_k H I R (cbm func202) (Jy _ l 4 t am) λw a I H=>?_
   refine Zm H R R (VH (l ^^^ n) t) λa H=>Zm H R R (VH ((l ^^^ n) ^^^ t) 90) λa H=>Zr H R (HV) λa H=>?_
   obtain ⟨aq,F,h⟩:=bvx h
   refine ZC H R R u_4 ty5 F.1 λa H=>Zk (seg:=[vB (((l ^^^ n) ^^^ t) ^^^ 90)]) (cs':=cat [xw,enc (L.1.setIfInBounds (L.2).toNat (((l ^^^ n) ^^^ t) ^^^ 90)),enc xc,enc xb,[vI c]]) H I Za R R R ty5 R (QE (o':=0 + (L.2).toNat * 1) (pre:=[xw]) (seg:=enc L.1) (post:=[enc xc,enc xb,[vI c]]) ck (ZS (v:=L.1) (x:=((l ^^^ n) ^^^ t) ^^^ 90) F.1) of_) (t_1 (((l ^^^ n) ^^^ t) ^^^ 90 : UInt8)) (Vh (o':=0 + (L.2).toNat * 1) (pre:=[xw]) (seg:=enc L.1) (post:=[enc xc,enc xb,[vI c]]) ck (ZS (v:=L.1) (x:=((l ^^^ n) ^^^ t) ^^^ 90) F.1) (ZF (v:=L.1) (x:=((l ^^^ n) ^^^ t) ^^^ 90) F.1) of_) λw a I H=>Zf (Yn (Zw (s_1 (Zm H R R R λa H=>Zd H R λa H=>Zf (Zi ?_)))))
   exact ⟨_,ois h,H.s,I⟩
  intro T h
  refine s_3 (Zp (Zp (Yv ?_)))
  obtain rfl:=O _ (ois h)
  refine Zi ?_
  exact ⟨H.s,I⟩
 rintro a w ⟨H,I⟩
 refine Zw (s_2 (Zb (Zd H R λa H=>Ze ?_)))
 obtain ⟨d,U,W⟩:=p_1 aj
 refine ZX (λa w=>Env 61 a [(2,ptr B 0),(3,ptr C 0)] ∧ M (Old q) q w [raw C (cat [xw,enc k,enc d,enc xb,[vI c]]),raw B xh]) ?_ ?_
 ·refine p_2 ?_
  refine ZN (λ(m : V44 × Int) a w=>Env 61 a [(2,ptr B 0),(3,ptr C 0),(29,vI m.2)] ∧ M (Old q) q w [raw C (cat [xw,enc k,enc m.1,enc xb,[vI c]]),raw B xh]) U ⟨H.s,I⟩ ?_
  rintro m a w ⟨H,I⟩ ar o X
  unfold TQ at o
  refine Zb (Zm H R R R λa H=>Ze (s_2 ?_))
  refine c_if H R o ?_ ?_
  ·intro Y o
   refine t_2 (Zw (s_2 (p_2 (Zb (Zd H R λa H=>Zc H R λa H=>Ze (Zb (Zd H R λa H=>Ze ?_)))))))
   obtain ⟨an,Z,aa⟩:=p_1 o
   refine ZX (λa w=>Env 61 a [(2,ptr B 0),(3,ptr C 0),(29,vI m.2)] ∧ M (Old q) q w [raw C (cat [xw,enc k,enc an,enc xb,[vI c]]),raw B xh]) ?_ ?_
   ·refine p_2 ?_
    refine ZN (λ(f : V44 × Int) a w=>Env 61 a [(2,ptr B 0),(3,ptr C 0),(6,vI m.2),(29,vI m.2),(32,vI f.2)] ∧ M (Old q) q w [raw C (cat [xw,enc k,enc f.1,enc xb,[vI c]]),raw B xh]) Z ⟨H.s,I⟩ ?_
    rintro f a w ⟨H,I⟩ au b ab
    unfold TO at b
    refine Zb (Zm H R R R λa H=>Ze (s_2 ?_))
    refine c_if H R b ?_ ?_
    ·intro ac b
     refine t_2 (Zw (s_2 (p_2 (Zb (Zd H R λa H=>Zc H R λa H=>Ze ?_)))))
     obtain ⟨y,ao,b⟩:=p_1 b
     obtain ⟨N,G,b⟩:=bvx b
     obtain ⟨av,A,b⟩:=bvx b
     refine Z7 [35,36,37,38,39,40,41,42,43,44,45] YJ R R dd_ R H I (q_m (λ_=>R) (q_m (λ_=>R) (q_m (λ_=>R) (q_m (λ_=>R) (qsP (v:=(vI (wr (4 + f.2)))) (λz=>Ye z.E Za ld R R R (kr0 R)) (qsP (v:=(vI (BY m.2 (wr (4 + f.2))))) (λz=>Ye z.E Za ld R R R (kr0 R)) (qsP (λz=>Xq z.E Za ld R o_6 t_3 (kr0 R)) (qsP (λz=>ZW z.E Za ld R Zkt (Ti _ 285 (Zz (BY m.2 (wr (4 + f.2)))) y ao) (kc R)) (qsP (λz=>Zo z.E Za ld R (Hm) (kr0 R)) (qsP (λz=>ZI z.E Za ld R R p_3 Xo G.1 (kr0 R)) (qsP (λz=>ZI z.E Za ld R R p_4 ty5 A.1 (kr0 R)) qs0))))))))))) ?_
     ·intro a w u H I
      refine Zk (seg:=[vB y]) (cs':=cat [xw,enc k,enc (f.1.setIfInBounds (m.2).toNat (N.setIfInBounds (f.2).toNat y)),enc xb,[vI c]]) H I Za R R R ty5 R (QE (o':=(m.2).toNat * 4 + (0 + (f.2).toNat * 1)) (pre:=[xw,enc k]) (seg:=enc f.1) (post:=[enc xb,[vI c]]) ck (WY (o':=0 + (f.2).toNat * 1) G (ZS (v:=N) (x:=y) A.1) of_) of_) (t_1 (y : UInt8)) (Vh (o':=(m.2).toNat * 4 + (0 + (f.2).toNat * 1)) (pre:=[xw,enc k]) (seg:=enc f.1) (post:=[enc xb,[vI c]]) ck (WY (o':=0 + (f.2).toNat * 1) G (ZS (v:=N) (x:=y) A.1) of_) (X5 (o':=0 + (f.2).toNat * 1) G (ZS (v:=N) (x:=y) A.1) (ZF (v:=N) (x:=y) A.1) of_) of_) λw a I H=>Zf (Yn (Zw (s_1 (Zm H R R R λa H=>Zd H R λa H=>Zf (Zi ?_)))))
      exact ⟨_,ois b,H.s,I⟩
    intro ac b
    refine s_3 (Zp (Zp (Yv ?_)))
    obtain rfl:=ab _ (ois b)
    refine Zi ?_
    exact ⟨H.s,I⟩
   rintro a w ⟨H,I⟩
   refine Yn (Zw (s_1 (Zm H R R R λa H=>Zd H R λa H=>Zf (Zi ?_))))
   exact ⟨_,ois aa,H.s,I⟩
  intro Y o
  refine s_3 (Zp (Zp (Yv ?_)))
  obtain rfl:=X _ (ois o)
  refine Zi ?_
  exact ⟨H.s,I⟩
 rintro a w ⟨H,I⟩
 refine Zw (s_2 (Zb (Zd H R λa H=>Ze ?_)))
 obtain ⟨i,ad,ae⟩:=p_1 W
 refine ZX (λa w=>Env 61 a [(2,ptr B 0),(3,ptr C 0)] ∧ M (Old q) q w [raw C (cat [xw,enc k,enc d,enc i,[vI c]]),raw B xh]) ?_ ?_
 ·refine p_2 ?_
  refine ZN (λ(e : V16 × Int) a w=>Env 61 a [(2,ptr B 0),(3,ptr C 0),(48,vI e.2)] ∧ M (Old q) q w [raw C (cat [xw,enc k,enc d,enc e.1,[vI c]]),raw B xh]) ad ⟨H.s,I⟩ ?_
  rintro e a w ⟨H,I⟩ aw j af
  unfold TN at j
  refine Zb (Zm H R R R λa H=>Ze (s_2 ?_))
  refine c_if H R j ?_ ?_
  ·intro ag j
   refine t_2 (Zw (s_2 (p_2 (Zb (Zd H R λa H=>Zc H R λa H=>Ze (s_1 (Zd H R λa H=>Zd H R λa H=>Zm H R R R λa H=>Zm H R R R λa H=>Zm H R R (J2 _ _ dd_) λa H=>Xq H Za ld R o_6 t_3 λa H=>Zr H R (JC) λa H=>?_)))))))
   obtain ⟨ax,K,j⟩:=bvx j
   refine ZC H R R u_5 ty5 K.1 λa H=>Zk (seg:=[vB (Zz (Int.tmod (wr ((wr (13 * e.2)) + 4)) 16))]) (cs':=cat [xw,enc k,enc d,enc (e.1.setIfInBounds (e.2).toNat (Zz (Int.tmod (wr ((wr (13 * e.2)) + 4)) 16))),[vI c]]) H I Za R R R ty5 R (QE (o':=0 + (e.2).toNat * 1) (pre:=[xw,enc k,enc d]) (seg:=enc e.1) (post:=[[vI c]]) ck (ZS (v:=e.1) (x:=Zz (Int.tmod (wr ((wr (13 * e.2)) + 4)) 16)) K.1) of_) (t_1 (Zz (Int.tmod (wr ((wr (13 * e.2)) + 4)) 16) : UInt8)) (Vh (o':=0 + (e.2).toNat * 1) (pre:=[xw,enc k,enc d]) (seg:=enc e.1) (post:=[[vI c]]) ck (ZS (v:=e.1) (x:=Zz (Int.tmod (wr ((wr (13 * e.2)) + 4)) 16)) K.1) (ZF (v:=e.1) (x:=Zz (Int.tmod (wr ((wr (13 * e.2)) + 4)) 16)) K.1) of_) λw a I H=>Zf (Yn (Zw (s_1 (Zm H R R R λa H=>Zd H R λa H=>Zf (Zi ?_)))))
   exact ⟨_,ois j,H.s,I⟩
  intro ag j
  refine s_3 (Zp (Zp (Yv ?_)))
  obtain rfl:=af _ (ois j)
  refine Zi ?_
  exact ⟨H.s,I⟩
 rintro a w ⟨H,I⟩
 refine Zw (Zb (Zu H R Wk R I.ra0 cq λa H=>?_))
 have I:=I.pl1
 refine Zk (seg:=cat [[vI ((⟨285,k,d,i,c⟩ : GCipher).Field)],enc ((⟨285,k,d,i,c⟩ : GCipher).Box),enc ((⟨285,k,d,i,c⟩ : GCipher).Mix),enc ((⟨285,k,d,i,c⟩ : GCipher).Places),[vI ((⟨285,k,d,i,c⟩ : GCipher).Rounds)]]) (cs':=cat [[vI ((⟨285,k,d,i,c⟩ : GCipher).Field)],enc ((⟨285,k,d,i,c⟩ : GCipher).Box),enc ((⟨285,k,d,i,c⟩ : GCipher).Mix),enc ((⟨285,k,d,i,c⟩ : GCipher).Places),[vI ((⟨285,k,d,i,c⟩ : GCipher).Rounds)]]) H I Za R R R Wk cq (q_1 cq cq) (Z0 (cc1 (t_1 ((⟨285,k,d,i,c⟩ : GCipher).Field : Int)) (cc1 (t_1 _) (cc1 (t_1 _) (cc1 (t_1 _) (cc1 (t_1 ((⟨285,k,d,i,c⟩ : GCipher).Rounds : Int)) cc0)))))) (q_2 cq cq) λw a I H=>Ze ?_
 obtain rfl:=o_1 ae
 have ah : Z8 prog _ _ (.cell 2 62) _:=ZH H R Wk R I.ra0 cq R
 exact u_2 (ZT H R ah ⟨_,R,R,I.kept⟩)
def UM (b : Int) : Option (GCipher × Int) :=
 (Yy b 1 20).bind λc=>if !c then (some ((⟨0,Vector.replicate 256 (0 : UInt8),Vector.replicate 4 (Vector.replicate 4 (0 : UInt8)),Vector.replicate 16 (0 : UInt8),0⟩ : GCipher),2)) else ((Vr b).bind λd=>some (d,0))
theorem yy (d : World) (c : Int) (r : GCipher × Int) (hF : UM c = some r) :
  Calls prog 28 [vI c].toArray d (Rt d (Value.tuple [Value.agg (enc r.1).toArray,vI r.2].toArray)):=by
 refine ce func28 ?_
 intro a H
 have I:=M.start d
 unfold UM at hF
 refine Zb (Zx H I Wk λl w a I H=>Zc H R λa H=>Ze (s_2 (Zb (Zd H R λa H=>?_))))
 obtain ⟨i,j,hF⟩:=p_1 hF
 refine c_k H I R JI (Yw _ c 1 20 i j) λw a I H=>?_
 refine Qe H R λa H=>Ze ?_
 refine c_if H R hF ?_ ?_
 ·intro e hF
  refine Zb (YQ (parts:=[]) (vs:=[]) (cs:=cat [[vI 0],enc xe,enc xc,enc xb,[vI 0]]) H Za ld R R Wk pl62 XL λa H=>Zk (seg:=cat [[vI 0],enc xe,enc xc,enc xb,[vI 0]]) (cs':=cat [[vI 0],enc xe,enc xc,enc xb,[vI 0]]) H I Za R R R Wk cq (q_1 cq cq) (Z0 (cc1 (t_1 (0 : Int)) (cc1 (t_1 _) (cc1 (t_1 _) (cc1 (t_1 _) (cc1 (t_1 (0 : Int)) cc0)))))) (q_2 cq cq) λw a I H=>Zc H R λa H=>Ze ?_)
  obtain rfl:=o_1 hF
  have f : Z8 prog _ _ (.cell 2 62) _:=ZH H R Wk R I.ra0 cq R
  exact u_2 (ZA (YN H R f (Zy H R) ⟨_,R,R,I.kept⟩))
 intro e hF
 refine t_2 (Zw (Zb (Zd H R λa H=>?_)))
 obtain ⟨b,k,hF⟩:=p_1 hF
 refine c_k H I R (cbm func109) (H9 _ c b k) λw a I H=>?_
 refine Zk (seg:=cat [[vI b.Field],enc b.Box,enc b.Mix,enc b.Places,[vI b.Rounds]]) (cs':=cat [[vI b.Field],enc b.Box,enc b.Mix,enc b.Places,[vI b.Rounds]]) H I Za R R R Wk cq (q_1 cq cq) (Z0 (cc1 (t_1 (b.Field : Int)) (cc1 (t_1 _) (cc1 (t_1 _) (cc1 (t_1 _) (cc1 (t_1 (b.Rounds : Int)) cc0)))))) (q_2 cq cq) λw a I H=>Zc H R λa H=>Ze ?_
 obtain rfl:=o_1 hF
 have h : Z8 prog _ _ (.cell 2 62) _:=ZH H R Wk R I.ra0 cq R
 exact u_2 (YN H R h (Zy H R) ⟨_,R,R,I.kept⟩)
def U4 (e : Int) (c : Int) (b : Int) : Option (Fl Int (Fl Unit Bool)) :=
 (XM c).bind λ_=>if decide (b < (BJ 2 c)) then ((Qc e b c).bind λd=>if d == 0 then (some (Fl.ex (Fl.ex false))) else (some (Fl.nx (wr (b + 1))))) else (some (Fl.ex (Fl.nx ())))
def U3 (d : Int) (b : Int) : Option (Fl Int (Fl Unit Bool)) :=
 if decide (b ≤ 4) then ((XM b).bind λ_=>(ZK (U4 d b) (BJ 1 b)).bind λc=>c.el (λe=>some (Fl.nx (wr (b + 1)))) (λr=>some (Fl.ex (Fl.ex r)))) else (some (Fl.ex (Fl.nx ())))
def UN (b : Int) : Option (Bool) :=
 (Yy b 256 511).bind λc=>if !c then (some false) else ((ZK (U3 b) 1).bind λd=>d.el (λe=>some true) (λr=>some r))
theorem HQ (e : World) (j : Int) (r : Bool) (hF : UN j = some r) :
  Calls prog 124 [vI j].toArray e (Rt e (vT r)):=by
 refine ce func124 ?_
 intro a H
 have I:=M.start e
 unfold UN at hF
 refine Zb (Zc H R λa H=>Ze (s_2 (Zb (Zd H R λa H=>?_))))
 obtain ⟨F,G,hF⟩:=p_1 hF
 refine c_k H I R JI (Yw _ j 256 511 F G) λw a I H=>?_
 refine Qe H R λa H=>Ze ?_
 refine c_if H R hF ?_ ?_
 ·intro y hF
  refine Zb (Zc H R λa H=>Ze ?_)
  obtain rfl:=o_1 hF
  exact u_2 (ZA (kr1 H R R I.kept))
 intro y hF
 refine t_2 (Zw (s_2 (Zb (Zc H R λa H=>Ze ?_))))
 obtain ⟨K,z,f⟩:=p_1 hF
 refine ZX (λa w=>∃ E : Unit,K = Fl.nx E ∧ Env 25 a [] ∧ M (Old e) e w []) ?_ ?_
 ·refine p_2 ?_
  refine ZN (λ(n : Int) a w=>Env 25 a [(0,vI j),(3,vI n)] ∧ M (Old e) e w []) z ⟨H.s,I⟩ ?_
  rintro n a w ⟨H,I⟩ L c h
  unfold U3 at c
  refine s_2 (Zb (Zd H R λa H=>Zm H R R R λa H=>Ze ?_))
  refine c_if H R c ?_ ?_
  ·intro o c
   refine t_2 (Zw (s_2 (p_2 (Zb (Zd H R λa H=>?_)))))
   obtain ⟨_,k,c⟩:=p_1 c
   have k:=VG k
   refine yd H Za ld R R (kK _ _ k) λa H=>Zc H R λa H=>Ze ?_
   obtain ⟨A,q,d⟩:=p_1 c
   refine ZX (λa w=>∃ t : Unit,A = Fl.nx t ∧ Env 25 a [(0,vI j),(3,vI n)] ∧ M (Old e) e w []) ?_ ?_
   ·refine p_2 ?_
    refine ZN (λ(l : Int) a w=>Env 25 a [(0,vI j),(3,vI n),(4,vI l)] ∧ M (Old e) e w []) q ⟨H.s,I⟩ ?_
    rintro l a w ⟨H,I⟩ N b i
    unfold U4 at b
    refine s_2 (Zb (Zd H R λa H=>Zd H R λa H=>?_))
    obtain ⟨_,m,b⟩:=p_1 b
    have m:=VG m
    refine yd H Za ld R R (kK _ _ m) λa H=>Zm H R R R λa H=>Ze ?_
    refine c_if H R b ?_ ?_
    ·intro u b
     refine t_2 (Zw (s_2 (p_2 (Zb (Zd H R λa H=>Zd H R λa H=>Zd H R λa H=>?_)))))
     obtain ⟨B,C,b⟩:=p_1 b
     refine c_k H I R (cbm func214) (kT _ j l n B C) λw a I H=>?_
     refine Zm H R R R λa H=>Ze ?_
     refine c_if H R b ?_ ?_
     ·intro x b
      refine Zb (Zc H R λa H=>Ze ?_)
      obtain rfl:=i _ (ois b)
      obtain rfl:=h _ (ois d)
      obtain rfl:=o_1 f
      exact u_2 (YZ (ZA (ZA (YZ (ZA (YZ (ZA (ZA (YZ (ZA (ZA (kr1 H R R I.kept))))))))))))
     intro x b
     refine t_2 (Yn (Zw (s_1 (Zd H R λa H=>Zm H R R R λa H=>Zc H R λa H=>Zf (Zi ?_)))))
     exact ⟨_,ois b,H.s,I⟩
    intro u b
    refine s_3 (Zp (Zp (Yv ?_)))
    obtain rfl:=i _ (ois b)
    refine Zi ?_
    exact ⟨(),R,H.s,I⟩
   rintro a w ⟨t,ht,H,I⟩
   subst ht
   have d:=JM d
   refine Yn (Zw (s_1 (Zd H R λa H=>Zm H R R R λa H=>Zc H R λa H=>Zf (Zi ?_))))
   exact ⟨_,ois d,H.s,I⟩
  intro o c
  refine s_3 (Zp (Zp (Yv ?_)))
  obtain rfl:=h _ (ois c)
  refine Zi ?_
  exact ⟨(),R,H.sub trivial,I⟩
 rintro a w ⟨E,ht,H,I⟩
 subst ht
 have f:=JM f
 refine Zw (Zb (Zc H R λa H=>Ze ?_))
 obtain rfl:=o_1 f
 exact u_2 (kr1 H R R I.kept)
def XF (d : List Bool) (e : Bool) (b : Int) : Option (Fl Int (Fl Unit Int)) :=
 if decide (b < (d.length : Int)) then ((idx d b).bind λc=>if e == c then (some (Fl.ex (Fl.ex b))) else (some (Fl.nx (wr (b + 1))))) else (some (Fl.ex (Fl.nx ())))
def VD (b : List Bool) (c : Bool) : Option (Int) :=
 (ZK (XF b c) 0).bind λd=>d.el (λe=>some (-1)) (λr=>some r)
theorem BH (f : World) (k : List Bool) (d : Value) (c : Ro f k [d]) (l : Bool) (r : Int) (hF : VD k l = some r) :
  Calls prog 332 [d,vT l].toArray f (Rt f (vI r)):=by
 refine ce func332 ?_
 intro a H
 have I:=M.start f
 unfold VD at hF
 refine Zb (Zc H R λa H=>Ze (s_2 (Zb (Zd H R λa H=>Yp H R underlying326 (I.rd c) λa H=>Zd H R λa H=>Ze ?_))))
 obtain ⟨u,m,e⟩:=p_1 hF
 refine ZX (λa w=>∃ q : Unit,u = Fl.nx q ∧ Env 19 a [] ∧ M (Old f) f w []) ?_ ?_
 ·refine p_2 ?_
  refine ZN (λ(t : Int) a w=>Env 19 a [(0,d),(1,vT l),(7,vI (k.length : Int)),(8,vI t)] ∧ M (Old f) f w []) m ⟨H.s,I⟩ ?_
  rintro t a w ⟨H,I⟩ x b i
  unfold XF at b
  refine Zb (Zm H R R R λa H=>Ze (s_2 ?_))
  refine c_if H R b ?_ ?_
  ·intro n b
   refine t_2 (Zw (s_2 (p_2 (Zb (Zd H R λa H=>Zc H R λa H=>Ze (Zb (Zd H R λa H=>Zd H R λa H=>Zd H R λa H=>?_)))))))
   obtain ⟨o,h,b⟩:=bix b
   refine Ys H R R underlying326 ty4 (I.rd c) h.1 λa H=>ZO (v:=(vT o)) H R ty4 R (Xx (I.rd c) h.2) λa H=>s_eqT H Za ld R R underlying4 λa H=>Ze ?_
   refine c_if H R b ?_ ?_
   ·intro j b
    refine Zb (Zd H R λa H=>Zc H R λa H=>Ze ?_)
    obtain rfl:=i _ (ois b)
    obtain rfl:=o_1 e
    exact u_2 (YZ (ZA (ZA (YZ (ZA (ZA (kr1 H R R I.kept)))))))
   intro j b
   refine t_2 (Yn (Zw (s_1 (Zm H R R R λa H=>Zd H R λa H=>Zf (Zi ?_)))))
   exact ⟨_,ois b,H.s,I⟩
  intro n b
  refine s_3 (Zp (Zp (Yv ?_)))
  obtain rfl:=i _ (ois b)
  refine Zi ?_
  exact ⟨(),R,H.sub trivial,I⟩
 rintro a w ⟨q,ht,H,I⟩
 subst ht
 have e:=JM e
 refine Zw (Zb (Zc H R λa H=>Ze ?_))
 obtain rfl:=o_1 e
 exact u_2 (kr1 H R R I.kept)
def XZ (b : List Bool) (c : Bool) : Option (Bool) :=
 (VD b c).bind λd=>some (decide (d ≥ 0))
theorem HI (d : World) (e : List Bool) (b : Value) (c : Ro d e [b]) (f : Bool) (r : Bool) (hF : XZ e f = some r) :
  Calls prog 317 [b,vT f].toArray d (Rt d (vT r)):=by
 refine ce func317 ?_
 intro a H
 have I:=M.start d
 unfold XZ at hF
 refine Zb (Zc H R λa H=>Ze (Zb (Zd H R λa H=>Zd H R λa H=>?_)))
 obtain ⟨h,i,hF⟩:=p_1 hF
 refine c_k H I R (cbm func332) (BH _ e b (I.rdo c) f h i) λw a I H=>?_
 refine Zm H R R R λa H=>Zc H R λa H=>Ze ?_
 obtain rfl:=o_1 hF
 exact u_2 (kr1 H R R I.kept)
def Ws (d : V256) (b : (Vector Bool 256) × Int) : Option (Fl ((Vector Bool 256) × Int) (Vector Bool 256)) :=
 if decide (b.2 < 256) then ((ZP d b.2).bind λc=>(ZP b.1 (bI c)).bind λe=>some (Fl.nx ((b.1.setIfInBounds ((bI c)).toNat true),wr (b.2 + 1)))) else (some (Fl.ex b.1))
def VL (d : V256) : Option (Bool) :=
 (ZK (Ws d) ((Vector.replicate 256 false),0)).bind λe=>(slc e.toList (0 : Int) (256 : Int)).bind λb=>(XZ b false).bind λc=>some (!c)
theorem zb (e : World) (n : V256) (r : Bool) (hF : VL n = some r) :
  Calls prog 271 [Value.agg (enc n).toArray].toArray e (Rt e (vT r)):=by
 refine ce func271 ?_
 intro a H
 have I:=M.start e
 unfold VL at hF
 refine Zb (ZY (cs:=enc n) H I Za ld R R λC w a I H=>Zc H R λa H=>Ze (Zb (Xi (parts:=[]) (vs:=[]) (cs:=enc (Vector.replicate 256 false)) H Za ld R R Zem R ty4 YK λa H=>Zx H I Zem λh w a I H=>s_w (Vector.replicate 256 false) H I Za R R R Zem λw a I H=>Ze (s_2 (Zb (Zu H R Wg R I.ra1 (u_1 _) λa H=>Zd H R λa H=>Ze ?_))))))
 obtain ⟨z,o,c⟩:=p_1 hF
 refine ZX (λa w=>Env 17 a [(3,ptr h 0)] ∧ M (Old e) e w [raw h (enc z)]) ?_ ?_
 ·refine p_2 ?_
  have I:=I.f_1
  refine ZN (λ(f : (Vector Bool 256) × Int) a w=>Env 17 a [(3,ptr h 0),(7,Value.agg (enc n).toArray),(8,vI f.2)] ∧ M (Old e) e w [raw h (enc f.1)]) o ⟨H.s,I⟩ ?_
  rintro f a w ⟨H,I⟩ A b i
  unfold Ws at b
  refine Zb (Zm H R R R λa H=>Ze (s_2 ?_))
  refine c_if H R b ?_ ?_
  ·intro j b
   refine t_2 (Zw (s_2 (p_2 (Zb ?_))))
   obtain ⟨q,k,b⟩:=bvx b
   refine Hg H Za ld R R u_4 ty5 R R k R λa H=>Zc H R λa H=>Ze (s_1 (Zd H R λa H=>?_))
   obtain ⟨B,d,b⟩:=bvx b
   refine ZC H R R o_8 ty4 d.1 λa H=>Zk (seg:=[vT true]) (cs':=enc (f.1.setIfInBounds ((bI q)).toNat true)) H I Za R R R ty4 R (ZS (v:=f.1) (x:=true) d.1) (t_1 (true : Bool)) (ZF (v:=f.1) (x:=true) d.1) λw a I H=>Zf (Yn (Zw (s_1 (Zm H R R R λa H=>Zd H R λa H=>Zf (Zi ?_)))))
   exact ⟨_,ois b,H.s,I⟩
  intro j b
  refine s_3 (Zp (Zp (Yv ?_)))
  obtain rfl:=i _ (ois b)
  refine Zi ?_
  exact ⟨H.s,I⟩
 rintro a w ⟨H,I⟩
 refine Zw (Zb ?_)
 obtain ⟨t,l,c⟩:=p_1 c
 have m:=Ul l -- ^
 refine XH (N:=256) H Za ld R R R R R o_8 ty4 m λa H=>?_
 obtain ⟨u,y,c⟩:=p_1 c
 refine c_k H I R (cbm func317) (HI _ t (ZV (.slice (some ⟨h,0,none⟩) 256 256) ((0 : Int)).toNat ((256 : Int)).toNat 1) (Yo (At.sat I.ra0 (by simp) dd_) l) false u y) λw a I H=>?_
 refine Qe H R λa H=>Zc H R λa H=>Ze ?_
 obtain rfl:=o_1 c
 exact u_2 (kr1 H R R I.kept)
def Jp (b : V44 × Int) : Option (Fl (V44 × Int) V44) :=
 if decide (b.2 < 4) then ((ZP b.1 b.2).bind λc=>(ZP c b.2).bind λd=>some (Fl.nx ((b.1.setIfInBounds (b.2).toNat (c.setIfInBounds (b.2).toNat 1)),wr (b.2 + 1)))) else (some (Fl.ex b.1))
def Tt : Option (V44) :=
 (ZK (Jp) ((Vector.replicate 4 (Vector.replicate 4 (0 : UInt8))),0)).bind λb=>some b
theorem jg (h : World)  (r : V44) (hF : Tt  = some r) :
  Calls prog 314 [].toArray h (Rt h (Value.agg (enc r).toArray)):=by
 refine ce func314 ?_
 intro a H
 have I:=M.start h
 unfold Tt at hF
 refine Zb (Zx H I Ve λl w a I H=>Ze (Zb (Xi (parts:=[]) (vs:=[]) (cs:=enc xc) H Za ld R R Ve R Xo YK λa H=>Zx H I Ve λm w a I H=>s_w xc H I Za R R R Ve λw a I H=>Ze (s_2 (Zb (Zd H R λa H=>Ze ?_))))))
 obtain ⟨q,n,o⟩:=p_1 hF
 refine ZX (λa w=>Env 13 a [(0,ptr l 0),(1,ptr m 0)] ∧ M (Old h) h w [raw m (enc q),raw l xx]) ?_ ?_
 ·refine p_2 ?_
  refine ZN (λ(f : V44 × Int) a w=>Env 13 a [(0,ptr l 0),(1,ptr m 0),(4,vI f.2)] ∧ M (Old h) h w [raw m (enc f.1),raw l xx]) n ⟨H.s,I⟩ ?_
  rintro f a w ⟨H,I⟩ t b i
  unfold Jp at b
  refine Zb (Zm H R R R λa H=>Ze (s_2 ?_))
  refine c_if H R b ?_ ?_
  ·intro j b
   refine t_2 (Zw (s_2 (p_2 (Zb (Zd H R λa H=>Zc H R λa H=>Ze (s_1 (Zd H R λa H=>Zd H R λa H=>?_)))))))
   obtain ⟨e,d,b⟩:=bvx b
   refine ZC H R R p_3 Xo d.1 λa H=>?_
   obtain ⟨u,c,b⟩:=bvx b
   refine ZC H R R p_4 ty5 c.1 λa H=>Zk (seg:=[vB 1]) (cs':=enc (f.1.setIfInBounds (f.2).toNat (e.setIfInBounds (f.2).toNat 1))) H I Za R R R ty5 R (WY (o':=0 + (f.2).toNat * 1) d (ZS (v:=e) (x:=1) c.1) of_) (t_1 (1 : UInt8)) (X5 (o':=0 + (f.2).toNat * 1) d (ZS (v:=e) (x:=1) c.1) (ZF (v:=e) (x:=1) c.1) of_) λw a I H=>Zf (Yn (Zw (s_1 (Zm H R R R λa H=>Zd H R λa H=>Zf (Zi ?_)))))
   exact ⟨_,ois b,H.s,I⟩
  intro j b
  refine s_3 (Zp (Zp (Yv ?_)))
  obtain rfl:=i _ (ois b)
  refine Zi ?_
  exact ⟨H.s,I⟩
 rintro a w ⟨H,I⟩
 refine Zw (Zb (Zu H R Ve R I.ra0 (u_1 _) λa H=>?_))
 have I:=I.pl1
 refine s_w q H I Za R R R Ve λw a I H=>Ze ?_
 obtain rfl:=o_1 o
 have k : Z8 prog _ _ (.cell 0 59) _:=ZH H R Ve R I.ra0 (u_1 _) R
 exact u_2 (ZT H R k ⟨_,R,R,I.kept⟩)
def Kj (c : V44 × V44 × Int × UInt8) (b : Int) : Option (Fl Int Int) :=
 (if decide (b < 4) then ((ZP c.1 b).bind λd=>(ZP d c.2.2.1).bind λe=>some (e == 0)) else (some false) : Option (Bool)).bind λf=>if f then (some (Fl.nx (wr (b + 1)))) else (some (Fl.ex b))
def VO (n : Int) (c : V44 × V44 × Int × UInt8) (f : UInt8) (b : V44 × V44 × Int) : Option (Fl (V44 × V44 × Int) (V44 × V44)) :=
 if decide (b.2.2 < 4) then ((ZP b.1 c.2.2.1).bind λh=>(ZP h b.2.2).bind λi=>(Z5 n i f).bind λj=>(ZP b.2.1 c.2.2.1).bind λk=>(ZP k b.2.2).bind λl=>(Z5 n l f).bind λm=>(ZP b.1 c.2.2.1).bind λd=>(ZP d b.2.2).bind λo=>(ZP b.2.1 c.2.2.1).bind λe=>(ZP e b.2.2).bind λq=>some (Fl.nx ((b.1.setIfInBounds (c.2.2.1).toNat (d.setIfInBounds (b.2.2).toNat j)),b.2.1.setIfInBounds (c.2.2.1).toNat (e.setIfInBounds (b.2.2).toNat m),wr (b.2.2 + 1)))) else (some (Fl.ex (b.1,b.2.1)))
def VJ (y : Int) (h : V44 × V44 × Int × UInt8) (c : V44 × V44 × Int) (d : UInt8) (b : V44 × V44 × Int) : Option (Fl (V44 × V44 × Int) (V44 × V44)) :=
 if decide (b.2.2 < 4) then (((ZP b.1 c.2.2).bind λi=>(ZP i b.2.2).bind λj=>(ZP b.1 h.2.2.1).bind λk=>(ZP k b.2.2).bind λl=>(Z5 y d l).bind λm=>(ZP b.1 c.2.2).bind λe=>(ZP e b.2.2).bind λz=>some (b.1.setIfInBounds (c.2.2).toNat (e.setIfInBounds (b.2.2).toNat (j ^^^ m))) : Option (V44)).bind λn=>(ZP b.2.1 c.2.2).bind λo=>(ZP o b.2.2).bind λq=>(ZP b.2.1 h.2.2.1).bind λt=>(ZP t b.2.2).bind λu=>(Z5 y d u).bind λx=>(ZP b.2.1 c.2.2).bind λf=>(ZP f b.2.2).bind λA=>some (Fl.nx (n,b.2.1.setIfInBounds (c.2.2).toNat (f.setIfInBounds (b.2.2).toNat (q ^^^ x)),wr (b.2.2 + 1)))) else (some (Fl.ex (b.1,b.2.1)))
def VF (k : Int) (h : V44 × V44 × Int × UInt8) (b : V44 × V44 × Int) : Option (Fl (V44 × V44 × Int) (V44 × V44)) :=
 if decide (b.2.2 < 4) then (((ZP b.1 b.2.2).bind λi=>(ZP i h.2.2.1).bind λc=>(if b.2.2 != h.2.2.1 then (some (c != 0)) else (some false) : Option (Bool)).bind λj=>(if j then ((ZK (VJ k h b c) (b.1,b.2.1,0)).bind λd=>some (d.1,d.2)) else (some (b.1,b.2.1)) : Option (V44 × V44)).bind λe=>some (e.1,e.2) : Option (V44 × V44)).bind λf=>some (Fl.nx (f.1,f.2,wr (b.2.2 + 1)))) else (some (Fl.ex (b.1,b.2.1)))
def X4 (j : Int) (b : V44 × V44 × Int × UInt8) : Option (Fl (V44 × V44 × Int × UInt8) (Fl (V44 × UInt8) (UInt8 × V44))) :=
 if decide (b.2.2.1 < 4) then ((ZK (Kj b) b.2.2.1).bind λc=>if c == 4 then (some (Fl.ex (Fl.ex (0,Vector.replicate 4 (Vector.replicate 4 (0 : UInt8)))))) else (((ZP b.1 b.2.2.1).bind λf=>(ZP b.1 c).bind λk=>(ZP b.1 c).bind λy=>(ZP (b.1.setIfInBounds (c).toNat f) b.2.2.1).bind λz=>some ((b.1.setIfInBounds (c).toNat f).setIfInBounds (b.2.2.1).toNat k) : Option (V44)).bind λe=>((ZP b.2.1 b.2.2.1).bind λh=>(ZP b.2.1 c).bind λl=>(ZP b.2.1 c).bind λA=>(ZP (b.2.1.setIfInBounds (c).toNat h) b.2.2.1).bind λB=>some ((b.2.1.setIfInBounds (c).toNat h).setIfInBounds (b.2.2.1).toNat l) : Option (V44)).bind λm=>(ZP e b.2.2.1).bind λn=>(ZP n b.2.2.1).bind λo=>(Z5 j b.2.2.2 o).bind λq=>(ZP e b.2.2.1).bind λt=>(ZP t b.2.2.1).bind λu=>(Y3 j u).bind λx=>(ZK (VO j b x) (e,m,0)).bind λi=>(ZK (VF j b) (i.1,i.2,0)).bind λd=>some (Fl.nx (d.1,d.2,wr (b.2.2.1 + 1),q)))) else (some (Fl.ex (Fl.nx (b.2.1,b.2.2.2))))
def Wj (d : Int) (e : V44) : Option (UInt8 × V44) :=
 (Tt).bind λf=>(ZK (X4 d) (e,f,0,1)).bind λh=>h.el (λc=>(some (c.1,c.2) : Option (V44 × UInt8)).bind λb=>some (b.2,b.1)) (λr=>some r)
end

end Go.Proofs.YtfhhlkkhcoaapaaGreat
