/- The walk of what the law reaches: contracts of functions. -/
import Derived.Test.YtfhhlkkhcoaapaaGreatK2
import Derived.Test.YtfhhlkkhcoaapaaGreatShelfS
import Derived.Test.YtfhhlkkhcoaapaaGreatProg
set_option linter.unusedVariables false
set_option linter.unusedSimpArgs false
set_option maxRecDepth 20000
set_option maxHeartbeats 400000
namespace Go.Proofs.YtfhhlkkhcoaapaaGreat
open Go Go.Proofs.Tryz
open Flat (enc)
noncomputable section
universe u
theorem R {α : Sort u} {a : α} : a = a:=rfl
abbrev V16:=Vector UInt8 16
abbrev V32:=Vector UInt8 32
abbrev V256:=Vector UInt8 256
theorem Env.s {n : Nat} {a : Act} {e e' : List (Nat × Value)} (h : Env n a e) (hs : zi e e' := by repeat (first | exact trivial | refine ⟨rfl,?_⟩)) : Env n a e':=h.sub hs
theorem k_s {n : Nat} {a : Act} {e : List (Nat × Value)} {w : World} {P : Program} {ops : Array Oper} {rest : List Oper} {Q : Exit → Act → World → Prop} (h : Env n a e) {j t d : Nat} {q b b' : Bool} {x : Op} {ty : TypeId} {p : String} {af : Array Edge} (hk : q = b) (hj : (ops[j]?).bind (·.dst) = some t) (ht : e.lookup t = some (.bool q)) (hb : b = !b') (k : ∀ a, Env n a ((d, undef) :: e) → wpList P ops Q rest a w) (hd : d < n := by decide) : wpList P ops Q (⟨some d, x, ty, p, af, some (j, b')⟩ :: rest) a w:=Zf h hj (lkb ht hk) hb hd k
theorem q_1 {a b : List Value} {n : Nat} (h1 : a.length = n) (h2 : b.length = n) : 0 + a.length ≤ b.length:=Nat.le_of_eq ((Nat.zero_add _).trans (h1.trans h2.symm))
theorem q_2 {a b : List Value} {n : Nat} (h1 : a.length = n) (h2 : b.length = n) : YM b 0 a = a:=Zh (h1.trans h2.symm)
theorem c_if {n : Nat} {a : Act} {e : List (Nat × Value)} {w : World} {P : Program} {Q : Exit → Act → World → Prop} {T : Type} {A B : Option T} {r : T} {X Y : Code} {x : Operand} {c : Bool} (h : Env n a e) (hx : opv e x = some (vT c)) (J : (if c = true then A else B) = some r) (h1 : c = true → A = some r → X.wp P Q a w) (h2 : c = false → B = some r → Y.wp P Q a w) : (Code.cond x X Y).wp P Q a w:=Zr h hx (fun k => h1 k (Zt J k)) (fun k => h2 k (Zs J k))
theorem c_k {n : Nat} {a : Act} {e : List (Nat × Value)} {w : World} {P : Program} {ops : Array Oper} {rest : List Oper} {Q : Exit → Act → World → Prop} {d : Nat} {ty : TypeId} {pos : String} {af : Array Edge} {f : Nat} {xs : List Operand} {ats : Array TypeId} {vs : List Value} {x : Value} {St : Nat → Prop} {w0 : World} {its : List Item} (h : Env n a e) (hM : M St w0 w its) (hxs : Js e xs = some vs) (hf : Callable P f) (hc : Calls P f vs.toArray w fun en w' => ∃ v, en = .returned v ∧ (v = x ∧ Kept (Old w) w w')) (k : ∀ w' a, M St w0 w' its → Env n a ((d, x) :: e) → wpList P ops Q rest a w') (hd : d < n := by decide) : wpList P ops Q (⟨some d, .call ⟨.value (.func f), xs.toArray, ats⟩, ty, pos, af, none⟩ :: rest) a w:=Zp h hxs hf hc (fun _ w' a hv hE => k w' a (hM.keep hv.2) (hv.1 ▸ hE)) hd
theorem dd_ {p : Prop} (h : p := by decide) : p:=h
theorem q_t {P : Program} {ops : Array Oper} {n : Nat} {ts : List Nat} {e0 : List (Nat × Value)} {St : Nat → Prop} {w0 : World} {its : List Item} {mk : Mk} {hd : List Oper} {i : Nat} {acc F : List Ent} {o : Oper} {r : List Oper} (h : ∀ {a w} {u : Nat → Value} {D : Nat → Bool}, QC n ts e0 St w0 its mk hd i acc o a w u D → wpList P ops (nrm fun a' w' => ∃ v t, ts[i]? = some t ∧ Env n a' ((t, v) :: (yH ts i acc u o.after.toList ++ Q1 ts 0 u e0)) ∧ M St w0 w' (its ++ qL mk (Xu D i) (UM u i v)) ∧ True) [o] a w) (k : QS P ops n ts e0 St w0 its mk hd (i + 1) r (.mk (fun _ => True) :: acc) F) : QS P ops n ts e0 St w0 its mk hd i (o :: r) acc F:=qsM (pr := fun _ => True) h k
theorem q_m {P : Program} {ops : Array Oper} {n : Nat} {ts : List Nat} {e0 : List (Nat × Value)} {St : Nat → Prop} {w0 : World} {its : List Item} {mk : Mk} {hd : List Oper} {i : Nat} {acc F : List Ent} {r : List Oper} {d : Nat} {ty : TypeId} {pos : String} {af : Array Edge} {x : Operand} {v : Value} (hx : ∀ u, opv (yH ts i acc u af.toList ++ Q1 ts 0 u e0) x = some v) (k : QS P ops n ts e0 St w0 its mk hd (i + 1) r (.p0 v :: acc) F) (ht : ts[i]? = some d := by rfl) (hn : d < n := by decide) (hi : (mk.all fun p => p.1.all fun k => k != i) = true := by rfl) : QS P ops n ts e0 St w0 its mk hd i (⟨some d, .move x, ty, pos, af, none⟩ :: r) acc F:=qsP (fun z => Zo z.E Za hn (hx _) (kr0 ht)) k hi
abbrev e_r (q : Value → World → Prop):=fun (en : Ending) w' => ∃ v, en = .returned v ∧ q v w'
theorem at_0 {w : World} {b o n : Nat} {s : List Value} {r : List (List Value)} [CL [] n] (h : At w b o (cat (s :: r))) : At w b (o + n) s:=At.cat (pre:=[]) h ck
theorem at_1 {w : World} {b o n : Nat} {p0 : List Value} {s : List Value} {r : List (List Value)} [CL [p0] n] (h : At w b o (cat (p0 :: s :: r))) : At w b (o + n) s:=At.cat (pre:=[p0]) h ck
theorem at_2 {w : World} {b o n : Nat} {p0 p1 : List Value} {s : List Value} {r : List (List Value)} [CL [p0,p1] n] (h : At w b o (cat (p0 :: p1 :: s :: r))) : At w b (o + n) s:=At.cat (pre:=[p0,p1]) h ck
theorem at_3 {w : World} {b o n : Nat} {p0 p1 p2 : List Value} {s : List Value} {r : List (List Value)} [CL [p0,p1,p2] n] (h : At w b o (cat (p0 :: p1 :: p2 :: s :: r))) : At w b (o + n) s:=At.cat (pre:=[p0,p1,p2]) h ck
theorem at_4 {w : World} {b o n : Nat} {p0 p1 p2 p3 : List Value} {s : List Value} {r : List (List Value)} [CL [p0,p1,p2,p3] n] (h : At w b o (cat (p0 :: p1 :: p2 :: p3 :: s :: r))) : At w b (o + n) s:=At.cat (pre:=[p0,p1,p2,p3]) h ck
theorem at_5 {w : World} {b o n : Nat} {p0 p1 p2 p3 p4 : List Value} {s : List Value} {r : List (List Value)} [CL [p0,p1,p2,p3,p4] n] (h : At w b o (cat (p0 :: p1 :: p2 :: p3 :: p4 :: s :: r))) : At w b (o + n) s:=At.cat (pre:=[p0,p1,p2,p3,p4]) h ck
theorem ft_2 {o : Nat} {p0 p1 : List Value} {s d : List Value} {r : List (List Value)} [CL [p0,p1] o] (h : d.length = s.length) : o + d.length ≤ (cat (p0 :: p1 :: s :: r)).length:=Xf (pre:=[p0,p1]) ck h
theorem ft_4 {o : Nat} {p0 p1 p2 p3 : List Value} {s d : List Value} {r : List (List Value)} [CL [p0,p1,p2,p3] o] (h : d.length = s.length) : o + d.length ≤ (cat (p0 :: p1 :: p2 :: p3 :: s :: r)).length:=Xf (pre:=[p0,p1,p2,p3]) ck h
theorem M.rn2 {α : Type} [Rep α] {St : Nat → Prop} {w w0 : World} {x : α} {c : List Value} {i0 i1 : Item} {q : List Item} (h : M St w0 w (i0 :: i1 :: own NoB x c :: q)) : Ro w x c:=M.ro (pre:=[_,_]) h noB
theorem M.sl0 {α : Type} [Rep α] {St : Nat → Prop} {w w0 : World} {l : List α} {v : Value} {q : List Item} (h : M St w0 w (osl NoB l v :: q)) : Ro w l [v]:=M.sl (pre:=[]) h noB
theorem M.sl1 {α : Type} [Rep α] {St : Nat → Prop} {w w0 : World} {l : List α} {v : Value} {i0 : Item} {q : List Item} (h : M St w0 w (i0 :: osl NoB l v :: q)) : Ro w l [v]:=M.sl (pre:=[_]) h noB
theorem M.sl2 {α : Type} [Rep α] {St : Nat → Prop} {w w0 : World} {l : List α} {v : Value} {i0 i1 : Item} {q : List Item} (h : M St w0 w (i0 :: i1 :: osl NoB l v :: q)) : Ro w l [v]:=M.sl (pre:=[_,_]) h noB
theorem M.sl3 {α : Type} [Rep α] {St : Nat → Prop} {w w0 : World} {l : List α} {v : Value} {i0 i1 i2 : Item} {q : List Item} (h : M St w0 w (i0 :: i1 :: i2 :: osl NoB l v :: q)) : Ro w l [v]:=M.sl (pre:=[_,_,_]) h noB
theorem M.sl4 {α : Type} [Rep α] {St : Nat → Prop} {w w0 : World} {l : List α} {v : Value} {i0 i1 i2 i3 : Item} {q : List Item} (h : M St w0 w (i0 :: i1 :: i2 :: i3 :: osl NoB l v :: q)) : Ro w l [v]:=M.sl (pre:=[_,_,_,_]) h noB
theorem M.sl5 {α : Type} [Rep α] {St : Nat → Prop} {w w0 : World} {l : List α} {v : Value} {i0 i1 i2 i3 i4 : Item} {q : List Item} (h : M St w0 w (i0 :: i1 :: i2 :: i3 :: i4 :: osl NoB l v :: q)) : Ro w l [v]:=M.sl (pre:=[_,_,_,_,_]) h noB
theorem M.sl6 {α : Type} [Rep α] {St : Nat → Prop} {w w0 : World} {l : List α} {v : Value} {i0 i1 i2 i3 i4 i5 : Item} {q : List Item} (h : M St w0 w (i0 :: i1 :: i2 :: i3 :: i4 :: i5 :: osl NoB l v :: q)) : Ro w l [v]:=M.sl (pre:=[_,_,_,_,_,_]) h noB
theorem M.sl7 {α : Type} [Rep α] {St : Nat → Prop} {w w0 : World} {l : List α} {v : Value} {i0 i1 i2 i3 i4 i5 i6 : Item} {q : List Item} (h : M St w0 w (i0 :: i1 :: i2 :: i3 :: i4 :: i5 :: i6 :: osl NoB l v :: q)) : Ro w l [v]:=M.sl (pre:=[_,_,_,_,_,_,_]) h noB
theorem sp_2 {o : Nat} {p0 p1 : List Value} {s s' : List Value} {r : List (List Value)} [CL [p0,p1] o] (h : s'.length = s.length) : YM (cat (p0 :: p1 :: s :: r)) o s' = cat (p0 :: p1 :: s' :: r):=Ym (pre:=[p0,p1]) ck h
theorem sp_4 {o : Nat} {p0 p1 p2 p3 : List Value} {s s' : List Value} {r : List (List Value)} [CL [p0,p1,p2,p3] o] (h : s'.length = s.length) : YM (cat (p0 :: p1 :: p2 :: p3 :: s :: r)) o s' = cat (p0 :: p1 :: p2 :: p3 :: s' :: r):=Ym (pre:=[p0,p1,p2,p3]) ck h
structure GRecord where
 Number : Int
 Version : Int
 Nonce : V16
 Label : (List UInt8)
 Body : (List UInt8)
 Tag : V32
 deriving DecidableEq,Inhabited
instance : Dat GRecord:=⟨λx=>Dat.bd (α:=Int × Int × V16 × (List UInt8) × (List UInt8) × V32) (x.Number,x.Version,x.Nonce,x.Label,x.Body,x.Tag),λx=>Dat.sz (α:=Int × Int × V16 × (List UInt8) × (List UInt8) × V32) (x.Number,x.Version,x.Nonce,x.Label,x.Body,x.Tag) + 1⟩
instance : Rep GRecord:=repIso (α:=Int × Int × V16 × (List UInt8) × (List UInt8) × V32) (λx=>(x.Number,x.Version,x.Nonce,x.Label,x.Body,x.Tag))
theorem Hk {S : Nat → Prop} {w : World} {x : GRecord} {cs : List Value} {fp : List Nat} (h : Rep.sat S w x cs fp) : ∃ (b : Value) (c : Value),∃ (k : List Nat) (l : List Nat),cs = cat [enc x.Number,enc x.Version,enc x.Nonce,[b],[c],enc x.Tag] ∧ fp = (k ++ l) ∧ Rep.sat S w x.Label [b] k ∧ Rep.sat S w x.Body [c] l:=by
 obtain ⟨u,y,z,q0,rfl,rfl,o,d⟩:=h
 obtain ⟨rfl,rfl⟩:=o
 obtain ⟨A,B,C,q1,rfl,rfl,q,e⟩:=d
 obtain ⟨rfl,rfl⟩:=q
 obtain ⟨E,F,G,q2,rfl,rfl,t,f⟩:=e
 obtain ⟨rfl,rfl⟩:=t
 obtain ⟨K,L,N,q3,rfl,rfl,m,i⟩:=f
 obtain ⟨b,rfl⟩:=Kg m
 obtain ⟨O,T,U,q4,rfl,rfl,n,j⟩:=i
 obtain ⟨c,rfl⟩:=Kg n
 obtain ⟨rfl,rfl⟩:=j
 exact ⟨b,c,_,_,R,by simp,m,n⟩
theorem Zcy {S : Nat → Prop} {w : World} {x : GRecord} {d e : Value} {fp : List Nat} (h : Rep.sat S w x (cat [enc x.Number,enc x.Version,enc x.Nonce,[d],[e],enc x.Tag]) fp) : ∃ (b : List Nat) (c : List Nat),fp = (b ++ c) ∧ Rep.sat S w x.Label [d] b ∧ Rep.sat S w x.Body [e] c:=by
 obtain ⟨q,t,b,c,hc,hf,f,i⟩:=Hk h
 obtain ⟨u,j⟩:=UU hc R
 obtain ⟨y,k⟩:=UU j R
 obtain ⟨z,l⟩:=UU k R
 obtain ⟨m,n⟩:=UU l R
 obtain ⟨o,A⟩:=UU n R
 obtain rfl:=(List.cons.inj m).1
 obtain rfl:=(List.cons.inj o).1
 exact ⟨b,c,hf,f,i⟩
theorem Yl {S : Nat → Prop} {w : World} {x : GRecord} {cs : List Value} (h : Rep.sat S w x cs []) : ∃ b c,cs = cat [enc x.Number,enc x.Version,enc x.Nonce,[b],[c],enc x.Tag] ∧ Rep.sat S w x.Label [b] [] ∧ Rep.sat S w x.Body [c] []:=by
 obtain ⟨A,B,C,E,rfl,d,u,e⟩:=h
 obtain ⟨rfl,rfl⟩:=List.append_eq_nil_iff.1 d.symm
 obtain ⟨rfl,_⟩:=u
 obtain ⟨F,G,K,L,rfl,f,y,i⟩:=e
 obtain ⟨rfl,rfl⟩:=List.append_eq_nil_iff.1 f.symm
 obtain ⟨rfl,_⟩:=y
 obtain ⟨N,O,T,U,rfl,j,z,k⟩:=i
 obtain ⟨rfl,rfl⟩:=List.append_eq_nil_iff.1 j.symm
 obtain ⟨rfl,_⟩:=z
 obtain ⟨W,X,Y,Z,rfl,l,q,m⟩:=k
 obtain ⟨rfl,rfl⟩:=List.append_eq_nil_iff.1 l.symm
 obtain ⟨b,rfl⟩:=Kg q
 obtain ⟨c4,d4,f4,g4,rfl,n,t,o⟩:=m
 obtain ⟨rfl,rfl⟩:=List.append_eq_nil_iff.1 n.symm
 obtain ⟨c,rfl⟩:=Kg t
 obtain ⟨rfl,_⟩:=o
 exact ⟨b,c,R,q,t⟩
theorem JU {S : Nat → Prop} {w : World} {x : GRecord} {d e : Value} {c b fp : List Nat} (f : Rep.sat S w x.Label [d] c) (h : Rep.sat S w x.Body [e] b) (hfp : fp = (c ++ b)) : Rep.sat S w x (cat [enc x.Number,enc x.Version,enc x.Nonce,[d],[e],enc x.Tag]) fp:=by
 rw [hfp]
 refine ⟨_,_,[],(c ++ b),R,(by simp),⟨R,R⟩,?_⟩
 refine ⟨_,_,[],(c ++ b),R,(by simp),⟨R,R⟩,?_⟩
 refine ⟨_,_,[],(c ++ b),R,(by simp),⟨R,R⟩,?_⟩
 refine ⟨_,_,c,b,R,(by simp),f,?_⟩
 refine ⟨_,_,b,[],R,(by simp),h,?_⟩
 exact ⟨R,R⟩
theorem QK {St : Nat → Prop} {b w : World} {its : List Item} {c d : Item} {x : GRecord} {e f : Value} (h : M St b w (c :: d :: its)) (i : Zb2 c x.Label e) (j : Zb2 d x.Body f) : M St b w (own NoB x (cat [enc x.Number,enc x.Version,enc x.Nonce,[e],[f],enc x.Tag]) :: its):=h.packL (m:=[_,_]) (Wa noB) λfp h=>by obtain ⟨_,_,rfl,_,k,_,_,rfl,_,l,rfl⟩:=h; exact JU (i _ _ k) (j _ _ l) (by simp)
theorem JY {St : Nat → Prop} {d w : World} {its : List Item} {x : GRecord} {b c : Value} (h : M St d w (own NoB x (cat [enc x.Number,enc x.Version,enc x.Nonce,[b],[c],enc x.Tag]) :: its)) : M St d w (own NoB x.Label [b] :: own NoB x.Body [c] :: its):=h.unpackL (m:=[own NoB x.Label [b],own NoB x.Body [c]]) λfp h=>by obtain ⟨_,_,rfl,e,f⟩:=Zcy h; exact (Xz.cons (Wa noB) e (Xz.one (Wa noB) f))
theorem Zjp (w : World) : Rep.sat NoB w (⟨(0 : Int),(0 : Int),(Vector.replicate 16 (0 : UInt8)),([] : (List UInt8)),([] : (List UInt8)),(Vector.replicate 32 (0 : UInt8))⟩ : GRecord) (cat [(enc (0 : Int)),(enc (0 : Int)),(enc (Vector.replicate 16 (0 : UInt8))),[.slice none 0 0],[.slice none 0 0],(enc (Vector.replicate 32 (0 : UInt8)))]) []:=JU JR JR rfl
structure GEvent where
 Kind : Int
 Number : Int
 Tag : V32
 deriving DecidableEq,Inhabited
instance : Dat GEvent:=⟨λx=>Dat.bd (α:=Int × Int × V32) (x.Kind,x.Number,x.Tag),λx=>Dat.sz (α:=Int × Int × V32) (x.Kind,x.Number,x.Tag) + 1⟩
instance : Flat GEvent where
 n:=34
 enc x:=cat [enc x.Kind,enc x.Number,enc x.Tag]
 len x:=jx (cl1 (Flat.len _) (cl1 (Flat.len _) (cl1 (Flat.len _) cl0)))
 cell x:=ZD (cc1 (Flat.cell _) (cc1 (Flat.cell _) (cc1 (Flat.cell _) cc0)))
structure GVault where
 Keys : (List V16)
 Next : Int
 Records : (List GRecord)
 Events : (List GEvent)
 Head : V32
 deriving DecidableEq,Inhabited
instance : Dat GVault:=⟨λx=>Dat.bd (α:=(List V16) × Int × (List GRecord) × (List GEvent) × V32) (x.Keys,x.Next,x.Records,x.Events,x.Head),λx=>Dat.sz (α:=(List V16) × Int × (List GRecord) × (List GEvent) × V32) (x.Keys,x.Next,x.Records,x.Events,x.Head) + 1⟩
instance : Rep GVault:=repIso (α:=(List V16) × Int × (List GRecord) × (List GEvent) × V32) (λx=>(x.Keys,x.Next,x.Records,x.Events,x.Head))
theorem Zdx {S : Nat → Prop} {w : World} {x : GVault} {cs : List Value} {fp : List Nat} (h : Rep.sat S w x cs fp) : ∃ (b : Value) (c : Value) (d : Value),∃ (k : List Nat) (l : List Nat) (m : List Nat),cs = cat [[b],enc x.Next,[c],[d],enc x.Head] ∧ fp = (k ++ (l ++ m)) ∧ Rep.sat S w x.Keys [b] k ∧ Rep.sat S w x.Records [c] l ∧ Rep.sat S w x.Events [d] m:=by
 obtain ⟨u,y,z,q0,rfl,rfl,n,e⟩:=h
 obtain ⟨b,rfl⟩:=Kg n
 obtain ⟨A,B,C,q1,rfl,rfl,t,f⟩:=e
 obtain ⟨rfl,rfl⟩:=t
 obtain ⟨E,F,G,q2,rfl,rfl,o,i⟩:=f
 obtain ⟨c,rfl⟩:=Kg o
 obtain ⟨K,L,N,q3,rfl,rfl,q,j⟩:=i
 obtain ⟨d,rfl⟩:=Kg q
 obtain ⟨rfl,rfl⟩:=j
 exact ⟨b,c,d,_,_,_,R,by simp,n,o,q⟩
theorem Zex {S : Nat → Prop} {w : World} {x : GVault} {e f i : Value} {fp : List Nat} (h : Rep.sat S w x (cat [[e],enc x.Next,[f],[i],enc x.Head]) fp) : ∃ (b : List Nat) (c : List Nat) (d : List Nat),fp = (b ++ (c ++ d)) ∧ Rep.sat S w x.Keys [e] b ∧ Rep.sat S w x.Records [f] c ∧ Rep.sat S w x.Events [i] d:=by
 obtain ⟨y,z,A,b,c,d,hc,hf,j,k,l⟩:=Zdx h
 obtain ⟨m,n⟩:=UU hc R
 obtain ⟨B,o⟩:=UU n R
 obtain ⟨q,t⟩:=UU o R
 obtain ⟨u,C⟩:=UU t R
 obtain rfl:=(List.cons.inj m).1
 obtain rfl:=(List.cons.inj q).1
 obtain rfl:=(List.cons.inj u).1
 exact ⟨b,c,d,hf,j,k,l⟩
theorem UD {S : Nat → Prop} {w : World} {x : GVault} {cs : List Value} (h : Rep.sat S w x cs []) : ∃ b c d,cs = cat [[b],enc x.Next,[c],[d],enc x.Head] ∧ Rep.sat S w x.Keys [b] [] ∧ Rep.sat S w x.Records [c] [] ∧ Rep.sat S w x.Events [d] []:=by
 obtain ⟨y,z,A,B,rfl,e,o,f⟩:=h
 obtain ⟨rfl,rfl⟩:=List.append_eq_nil_iff.1 e.symm
 obtain ⟨b,rfl⟩:=Kg o
 obtain ⟨C,E,F,G,rfl,i,u,j⟩:=f
 obtain ⟨rfl,rfl⟩:=List.append_eq_nil_iff.1 i.symm
 obtain ⟨rfl,_⟩:=u
 obtain ⟨K,L,N,O,rfl,k,q,l⟩:=j
 obtain ⟨rfl,rfl⟩:=List.append_eq_nil_iff.1 k.symm
 obtain ⟨c,rfl⟩:=Kg q
 obtain ⟨T,U,W,X,rfl,m,t,n⟩:=l
 obtain ⟨rfl,rfl⟩:=List.append_eq_nil_iff.1 m.symm
 obtain ⟨d,rfl⟩:=Kg t
 obtain ⟨rfl,_⟩:=n
 exact ⟨b,c,d,R,o,q,t⟩
theorem Zar {S : Nat → Prop} {w : World} {x : GVault} {e f h : Value} {d c b fp : List Nat} (i : Rep.sat S w x.Keys [e] d) (j : Rep.sat S w x.Records [f] c) (k : Rep.sat S w x.Events [h] b) (hfp : fp = (d ++ (c ++ b))) : Rep.sat S w x (cat [[e],enc x.Next,[f],[h],enc x.Head]) fp:=by
 rw [hfp]
 refine ⟨_,_,d,(c ++ b),R,(by simp),i,?_⟩
 refine ⟨_,_,[],(c ++ b),R,(by simp),⟨R,R⟩,?_⟩
 refine ⟨_,_,c,b,R,(by simp),j,?_⟩
 refine ⟨_,_,b,[],R,(by simp),k,?_⟩
 exact ⟨R,R⟩
theorem K5 {St : Nat → Prop} {b w : World} {its : List Item} {c d e : Item} {x : GVault} {f i j : Value} (h : M St b w (c :: d :: e :: its)) (k : Zb2 c x.Keys f) (l : Zb2 d x.Records i) (n : Zb2 e x.Events j) : M St b w (own NoB x (cat [[f],enc x.Next,[i],[j],enc x.Head]) :: its):=h.packL (m:=[_,_,_]) (Wa noB) λfp h=>by obtain ⟨_,_,rfl,_,o,_,_,rfl,_,q,_,_,rfl,_,t,rfl⟩:=h; exact Zar (k _ _ o) (l _ _ q) (n _ _ t) (by simp)
theorem Ja {St : Nat → Prop} {e w : World} {its : List Item} {x : GVault} {b c d : Value} (h : M St e w (own NoB x (cat [[b],enc x.Next,[c],[d],enc x.Head]) :: its)) : M St e w (own NoB x.Keys [b] :: own NoB x.Records [c] :: own NoB x.Events [d] :: its):=h.unpackL (m:=[own NoB x.Keys [b],own NoB x.Records [c],own NoB x.Events [d]]) λfp h=>by obtain ⟨_,_,_,rfl,f,i,j⟩:=Zex h; exact (Xz.cons (Wa noB) f (Xz.cons (Wa noB) i (Xz.one (Wa noB) j)))
theorem Zkf (w : World) : Rep.sat NoB w (⟨([] : (List V16)),(0 : Int),([] : (List GRecord)),([] : (List GEvent)),(Vector.replicate 32 (0 : UInt8))⟩ : GVault) (cat [[.slice none 0 0],(enc (0 : Int)),[.slice none 0 0],[.slice none 0 0],(enc (Vector.replicate 32 (0 : UInt8)))]) []:=Zar JR JR JR rfl
structure Gl01Source where
 code : (List UInt8)
 at0 : Int
 hash : Int
 deriving DecidableEq,Inhabited
instance : Dat Gl01Source:=⟨λx=>Dat.bd (α:=(List UInt8) × Int × Int) (x.code,x.at0,x.hash),λx=>Dat.sz (α:=(List UInt8) × Int × Int) (x.code,x.at0,x.hash) + 1⟩
instance : Rep Gl01Source:=repIso (α:=(List UInt8) × Int × Int) (λx=>(x.code,x.at0,x.hash))
theorem ky {S : Nat → Prop} {w : World} {x : Gl01Source} {cs : List Value} {fp : List Nat} (h : Rep.sat S w x cs fp) : ∃ (b : Value),∃ (e : List Nat),cs = cat [[b],enc x.at0,enc x.hash] ∧ fp = e ∧ Rep.sat S w x.code [b] e:=by
 obtain ⟨j,k,l,q0,rfl,rfl,f,c⟩:=h
 obtain ⟨b,rfl⟩:=Kg f
 obtain ⟨m,n,o,q1,rfl,rfl,i,d⟩:=c
 obtain ⟨rfl,rfl⟩:=i
 obtain ⟨rfl,rfl⟩:=d
 exact ⟨b,_,R,by simp,f⟩
theorem qj {S : Nat → Prop} {w : World} {x : Gl01Source} {c : Value} {fp : List Nat} (h : Rep.sat S w x (cat [[c],enc x.at0,enc x.hash]) fp) : ∃ (b : List Nat),fp = b ∧ Rep.sat S w x.code [c] b:=by
 obtain ⟨i,b,hc,hf,d⟩:=ky h
 obtain ⟨e,f⟩:=UU hc R
 obtain ⟨j,k⟩:=UU f R
 obtain rfl:=(List.cons.inj e).1
 exact ⟨b,hf,d⟩
theorem Zi5 {S : Nat → Prop} {w : World} {x : Gl01Source} {cs : List Value} (h : Rep.sat S w x cs []) : ∃ b,cs = cat [[b],enc x.at0,enc x.hash] ∧ Rep.sat S w x.code [b] []:=by
 obtain ⟨k,l,m,n,rfl,c,i,d⟩:=h
 obtain ⟨rfl,rfl⟩:=List.append_eq_nil_iff.1 c.symm
 obtain ⟨b,rfl⟩:=Kg i
 obtain ⟨o,q,t,u,rfl,e,j,f⟩:=d
 obtain ⟨rfl,rfl⟩:=List.append_eq_nil_iff.1 e.symm
 obtain ⟨rfl,_⟩:=j
 obtain ⟨rfl,_⟩:=f
 exact ⟨b,R,i⟩
theorem qC {S : Nat → Prop} {w : World} {x : Gl01Source} {c : Value} {b fp : List Nat} (d : Rep.sat S w x.code [c] b) (hfp : fp = b) : Rep.sat S w x (cat [[c],enc x.at0,enc x.hash]) fp:=by
 rw [hfp]
 refine ⟨_,_,b,[],R,(by simp),d,?_⟩
 refine ⟨_,_,[],[],R,(by simp),⟨R,R⟩,?_⟩
 exact ⟨R,R⟩
theorem Zi6 {St : Nat → Prop} {b w : World} {its : List Item} {c : Item} {x : Gl01Source} {d : Value} (h : M St b w (c :: its)) (e : Zb2 c x.code d) : M St b w (own NoB x (cat [[d],enc x.at0,enc x.hash]) :: its):=h.packL (m:=[_]) (Wa noB) λfp h=>by obtain ⟨_,_,rfl,_,f,rfl⟩:=h; exact qC (e _ _ f) (by simp)
theorem Zi7 {St : Nat → Prop} {c w : World} {its : List Item} {x : Gl01Source} {b : Value} (h : M St c w (own NoB x (cat [[b],enc x.at0,enc x.hash]) :: its)) : M St c w (own NoB x.code [b] :: its):=h.unpackL (m:=[own NoB x.code [b]]) λfp h=>by obtain ⟨_,rfl,d⟩:=qj h; exact Xz.one (Wa noB) d
structure GCipher where
 Field : Int
 Box : V256
 Mix : (Vector (Vector UInt8 4) 4)
 Places : V16
 Rounds : Int
 deriving DecidableEq,Inhabited
instance : Dat GCipher:=⟨λx=>Dat.bd (α:=Int × V256 × (Vector (Vector UInt8 4) 4) × V16 × Int) (x.Field,x.Box,x.Mix,x.Places,x.Rounds),λx=>Dat.sz (α:=Int × V256 × (Vector (Vector UInt8 4) 4) × V16 × Int) (x.Field,x.Box,x.Mix,x.Places,x.Rounds) + 1⟩
instance : Flat GCipher where
 n:=290
 enc x:=cat [enc x.Field,enc x.Box,enc x.Mix,enc x.Places,enc x.Rounds]
 len x:=jx (cl1 (Flat.len _) (cl1 (Flat.len _) (cl1 (Flat.len _) (cl1 (Flat.len _) (cl1 (Flat.len _) cl0)))))
 cell x:=ZD (cc1 (Flat.cell _) (cc1 (Flat.cell _) (cc1 (Flat.cell _) (cc1 (Flat.cell _) (cc1 (Flat.cell _) cc0)))))
structure Gengine where
 box : V256
 backBox : V256
 places : V16
 backPlaces : V16
 mixer : (Ref (Vector (Vector V256 4) 4))
 backMixer : (Ref (Vector (Vector V256 4) 4))
 rounds : Int
 deriving DecidableEq,Inhabited
instance : Dat Gengine:=⟨λx=>Dat.bd (α:=V256 × V256 × V16 × V16 × (Ref (Vector (Vector V256 4) 4)) × (Ref (Vector (Vector V256 4) 4)) × Int) (x.box,x.backBox,x.places,x.backPlaces,x.mixer,x.backMixer,x.rounds),λx=>Dat.sz (α:=V256 × V256 × V16 × V16 × (Ref (Vector (Vector V256 4) 4)) × (Ref (Vector (Vector V256 4) 4)) × Int) (x.box,x.backBox,x.places,x.backPlaces,x.mixer,x.backMixer,x.rounds) + 1⟩
instance : Rep Gengine:=repIso (α:=V256 × V256 × V16 × V16 × (Ref (Vector (Vector V256 4) 4)) × (Ref (Vector (Vector V256 4) 4)) × Int) (λx=>(x.box,x.backBox,x.places,x.backPlaces,x.mixer,x.backMixer,x.rounds))
abbrev cV (a b c : Value) (p : GVault):=cat [[a],[vI p.Next],[b],[c],enc p.Head]
abbrev cR (a b : Value) (p : GRecord):=cat [[vI p.Number],[vI p.Version],enc p.Nonce,[a],[b],enc p.Tag]
abbrev vcV (a b c : Value) (p : GVault):=Value.agg (cV a b c p).toArray
abbrev vcR (a b : Value) (p : GRecord):=Value.agg (cR a b p).toArray
abbrev xa:=[[(Value.slice none 0 0)],[vI 0],[(Value.slice none 0 0)],[(Value.slice none 0 0)],enc (Vector.replicate 32 (0 : UInt8))]
abbrev xb:=(Vector.replicate 32 (0 : UInt8))
abbrev xc:=(Vector.replicate 16 (0 : UInt8))
abbrev xd:=(Value.slice none 0 0)
abbrev xe:=(Vector.replicate 4 (Vector.replicate 4 (0 : UInt8)))
abbrev xf:=(Vector.replicate 256 (0 : UInt8))
abbrev xg:=(cat [[vI 0],[vI 0],enc xc,[xd],[xd],enc xb])
abbrev xh:=(cat xa)
abbrev xi:=(0 : Int)
abbrev xj:=(cat [[vI 0],enc xf,enc xe,enc xc,[vI 0]])
abbrev xk:=(Vector (Vector UInt8 4) 4)
abbrev xl:=(enc xc)
abbrev xm:=(enc xb)
abbrev xp:=(List (Int × V32))
abbrev xq:=(Value.int .i64)
abbrev xr:=(Vector (Vector V256 4) 4)
abbrev xt:=[vI 285]
abbrev xu:=[(Value.pointer none)]
abbrev xv:=([] : List UInt8)
abbrev xw:=(Int × Int)
abbrev xx:=((32 : Int))
abbrev xy:=((16 : Int))
abbrev xz:=(List (List UInt8))
abbrev xA:=(enc xe)
abbrev xB:=([] : List GEvent)
abbrev xC:=(List Int)
abbrev o_1:=@Option.some.inj
abbrev p_1:=@bind_some
abbrev s_1:=@Flat.cell
abbrev t_1:=@wp_region_lit
abbrev u_1:=@Flat.len
abbrev o_2:=@underlying22
abbrev p_2:=@wp_block
abbrev s_2:=@wp_seq
abbrev t_2:=@Rep.cell
abbrev u_2:=@wp_skip
abbrev o_3:=@underlying76
abbrev p_3:=@wp_ret
abbrev s_3:=@underlying75
abbrev t_3:=@underlying26
abbrev u_3:=@underlying5
abbrev o_4:=@underlying53
abbrev p_4:=@underlying77
abbrev s_4:=@wp_exit
abbrev t_4:=@underlying32
abbrev u_4:=@underlying59
abbrev o_5:=@underlying2
abbrev p_5:=@Kept.refl
abbrev s_5:=@underlying3
abbrev t_5:=@underlying57
abbrev u_5:=@underlying87
abbrev o_6:=@underlying25
abbrev p_6:=@underlying56
abbrev s_6:=@underlying322
abbrev t_6:=@underlying320
abbrev u_6:=@underlying187
abbrev o_7:=@underlying60
abbrev p_7:=@underlying55
abbrev s_7:=@underlying51
theorem Zcu {S : Nat → Prop} {w : World} {x : Gengine} {cs : List Value} {fp : List Nat} (h : Rep.sat S w x cs fp) : ∃ b c : Value,∃ (l : List Nat) (m : List Nat),cs = cat [enc x.box,enc x.backBox,enc x.places,enc x.backPlaces,[b],[c],enc x.rounds] ∧ fp = (l ++ m) ∧ Rep.sat S w x.mixer [b] l ∧ Rep.sat S w x.backMixer [c] m:=by
 obtain ⟨z,A,B,q0,rfl,rfl,q,d⟩:=h
 obtain ⟨rfl,rfl⟩:=q
 obtain ⟨C,E,F,q1,rfl,rfl,t,e⟩:=d
 obtain ⟨rfl,rfl⟩:=t
 obtain ⟨G,K,L,q2,rfl,rfl,u,f⟩:=e
 obtain ⟨rfl,rfl⟩:=u
 obtain ⟨N,O,T,q3,rfl,rfl,y,i⟩:=f
 obtain ⟨rfl,rfl⟩:=y
 obtain ⟨U,W,X,q4,rfl,rfl,n,j⟩:=i
 obtain ⟨b,rfl⟩:=jM n
 obtain ⟨Y,Z,f5,q5,rfl,rfl,o,k⟩:=j
 obtain ⟨c,rfl⟩:=jM o
 obtain ⟨rfl,rfl⟩:=k
 exact ⟨b,c,_,_,R,by simp,n,o⟩
theorem Zkg {S : Nat → Prop} {w : World} {x : Gengine} {d e : Value} {fp : List Nat} (h : Rep.sat S w x (cat [enc x.box,enc x.backBox,enc x.places,enc x.backPlaces,[d],[e],enc x.rounds]) fp) : ∃ (b : List Nat) (c : List Nat),fp = (b ++ c) ∧ Rep.sat S w x.mixer [d] b ∧ Rep.sat S w x.backMixer [e] c:=by
 obtain ⟨t,u,b,c,hc,hf,f,i⟩:=Zcu h
 obtain ⟨y,j⟩:=UU hc R
 obtain ⟨z,k⟩:=UU j R
 obtain ⟨A,l⟩:=UU k R
 obtain ⟨B,m⟩:=UU l R
 obtain ⟨n,o⟩:=UU m R
 obtain ⟨q,C⟩:=UU o R
 obtain rfl:=(List.cons.inj n).1
 obtain rfl:=(List.cons.inj q).1
 exact ⟨b,c,hf,f,i⟩
theorem Je {S : Nat → Prop} {w : World} {x : Gengine} {cs : List Value} (h : Rep.sat S w x cs []) : ∃ b c,cs = cat [enc x.box,enc x.backBox,enc x.places,enc x.backPlaces,[b],[c],enc x.rounds] ∧ Rep.sat S w x.mixer [b] [] ∧ Rep.sat S w x.backMixer [c] []:=by
 obtain ⟨E,F,G,K,rfl,d,z,e⟩:=h
 obtain ⟨rfl,rfl⟩:=List.append_eq_nil_iff.1 d.symm
 obtain ⟨rfl,_⟩:=z
 obtain ⟨L,N,O,T,rfl,f,A,i⟩:=e
 obtain ⟨rfl,rfl⟩:=List.append_eq_nil_iff.1 f.symm
 obtain ⟨rfl,_⟩:=A
 obtain ⟨U,W,X,Y,rfl,j,B,k⟩:=i
 obtain ⟨rfl,rfl⟩:=List.append_eq_nil_iff.1 j.symm
 obtain ⟨rfl,_⟩:=B
 obtain ⟨Z,d3,f3,g3,rfl,l,C,m⟩:=k
 obtain ⟨rfl,rfl⟩:=List.append_eq_nil_iff.1 l.symm
 obtain ⟨rfl,_⟩:=C
 obtain ⟨c4,d4,f4,g4,rfl,n,u,o⟩:=m
 obtain ⟨rfl,rfl⟩:=List.append_eq_nil_iff.1 n.symm
 obtain ⟨b,rfl⟩:=jM u
 obtain ⟨c5,d5,f5,g5,rfl,q,y,t⟩:=o
 obtain ⟨rfl,rfl⟩:=List.append_eq_nil_iff.1 q.symm
 obtain ⟨c,rfl⟩:=jM y
 obtain ⟨rfl,_⟩:=t
 exact ⟨b,c,R,u,y⟩
theorem Zel {S : Nat → Prop} {w : World} {x : Gengine} {d e : Value} {c b fp : List Nat} (f : Rep.sat S w x.mixer [d] c) (h : Rep.sat S w x.backMixer [e] b) (hfp : fp = (c ++ b)) : Rep.sat S w x (cat [enc x.box,enc x.backBox,enc x.places,enc x.backPlaces,[d],[e],enc x.rounds]) fp:=by
 rw [hfp]
 refine ⟨_,_,[],c ++ b,R,(by simp),⟨R,R⟩,?_⟩
 refine ⟨_,_,[],c ++ b,R,(by simp),⟨R,R⟩,?_⟩
 refine ⟨_,_,[],c ++ b,R,(by simp),⟨R,R⟩,?_⟩
 refine ⟨_,_,[],c ++ b,R,(by simp),⟨R,R⟩,?_⟩
 refine ⟨_,_,c,b,R,(by simp),f,?_⟩
 refine ⟨_,_,b,[],R,(by simp),h,?_⟩
 exact ⟨R,R⟩
theorem ty2 : Ty prog 2 (.int .i64) 1 8 (enc xi):=⟨o_5,by kernel_rfl⟩
theorem ty3 : Ty prog 3 (.int .i64) 1 8 (enc xi):=⟨s_5,by kernel_rfl⟩
theorem ty5 : Ty prog 5 (.int .u8) 1 1 (enc (0 : UInt8)):=⟨u_3,by kernel_rfl⟩
theorem Wo : Ty prog 22 (.slice 5) 1 24 [.slice none 0 0]:=⟨o_2,by kernel_rfl⟩
theorem Bh : Ty prog 26 (.slice 2) 1 24 [.slice none 0 0]:=⟨t_3,by kernel_rfl⟩
theorem ZW : Ty prog 32 (.array 32 5) 32 32 xm:=⟨t_4,by kernel_rfl⟩
theorem ty51 : Ty prog 51 (.int .u64) 1 8 [.int .u64 0]:=⟨s_7,by kernel_rfl⟩
theorem ZL : Ty prog 53 (.array 16 5) 16 16 xl:=⟨o_4,by kernel_rfl⟩
theorem ty55 : Ty prog 55 (.array 256 5) 256 256 (enc xf):=⟨p_7,by kernel_rfl⟩
theorem Qe : Ty prog 56 (.array 256 5) 256 256 (enc xf):=⟨p_6,by kernel_rfl⟩
theorem TQ : Ty prog 57 (.array 4 5) 4 4 (enc (Vector.replicate 4 (0 : UInt8))):=⟨t_5,by kernel_rfl⟩
theorem JQ : Ty prog 59 (.array 4 57) 16 16 xA:=⟨u_4,by kernel_rfl⟩
theorem Ap : Ty prog 60 (.array 16 5) 16 16 xl:=⟨o_7,by kernel_rfl⟩
theorem KU : Ty prog 62 (.struct [{ name := "Field", type := 2, offset := 0, embedded := false, tag := "", pkgPath := "", byteOffset := 0 }, { name := "Box", type := 56, offset := 1, embedded := false, tag := "", pkgPath := "", byteOffset := 8 }, { name := "Mix", type := 59, offset := 257, embedded := false, tag := "", pkgPath := "", byteOffset := 264 }, { name := "Places", type := 60, offset := 273, embedded := false, tag := "", pkgPath := "", byteOffset := 280 }, { name := "Rounds", type := 2, offset := 289, embedded := false, tag := "", pkgPath := "", byteOffset := 296 }].toArray) 290 304 (enc (⟨xi, xf, xe, xc, xi⟩ : GCipher)) := ⟨underlying62, by kernel_rfl⟩
theorem TF : Ty prog 75 (.slice 53) 1 24 [.slice none 0 0]:=⟨s_3,by kernel_rfl⟩
theorem Xr : Ty prog 76 (.slice 98) 1 24 [.slice none 0 0]:=⟨o_3,by kernel_rfl⟩
theorem T3 : Ty prog 77 (.slice 181) 1 24 [.slice none 0 0]:=⟨p_4,by kernel_rfl⟩
theorem ZG : Ty prog 79 (.struct [{ name := "Keys", type := 75, offset := 0, embedded := false, tag := "", pkgPath := "", byteOffset := 0 }, { name := "Next", type := 2, offset := 1, embedded := false, tag := "", pkgPath := "", byteOffset := 24 }, { name := "Records", type := 76, offset := 2, embedded := false, tag := "", pkgPath := "", byteOffset := 32 }, { name := "Events", type := 77, offset := 3, embedded := false, tag := "", pkgPath := "", byteOffset := 56 }, { name := "Head", type := 32, offset := 4, embedded := false, tag := "", pkgPath := "", byteOffset := 80 }].toArray) 36 112 (cat [[.slice none 0 0], (enc xi), [.slice none 0 0], [.slice none 0 0], xm]) := ⟨underlying79, by kernel_rfl⟩
theorem Yk : Ty prog 98 (.struct [{ name := "Number", type := 2, offset := 0, embedded := false, tag := "", pkgPath := "", byteOffset := 0 }, { name := "Version", type := 2, offset := 1, embedded := false, tag := "", pkgPath := "", byteOffset := 8 }, { name := "Nonce", type := 53, offset := 2, embedded := false, tag := "", pkgPath := "", byteOffset := 16 }, { name := "Label", type := 22, offset := 18, embedded := false, tag := "", pkgPath := "", byteOffset := 32 }, { name := "Body", type := 22, offset := 19, embedded := false, tag := "", pkgPath := "", byteOffset := 56 }, { name := "Tag", type := 32, offset := 20, embedded := false, tag := "", pkgPath := "", byteOffset := 80 }].toArray) 52 112 (cat [enc xi, (enc xi), xl, [.slice none 0 0], [.slice none 0 0], xm]) := ⟨underlying98, by kernel_rfl⟩
theorem Xn : Ty prog 181 (.struct [{ name := "Kind", type := 2, offset := 0, embedded := false, tag := "", pkgPath := "", byteOffset := 0 }, { name := "Number", type := 2, offset := 1, embedded := false, tag := "", pkgPath := "", byteOffset := 8 }, { name := "Tag", type := 32, offset := 2, embedded := false, tag := "", pkgPath := "", byteOffset := 16 }].toArray) 34 48 (enc (⟨xi, xi, xb⟩ : GEvent)) := ⟨underlying181, by kernel_rfl⟩
theorem Zfw : Ty prog 210 (.struct [{ name := "code", type := 22, offset := 0, embedded := false, tag := "", pkgPath := "loop.example/g01182/spec", byteOffset := 0 }, { name := "at", type := 3, offset := 1, embedded := false, tag := "", pkgPath := "loop.example/g01182/spec", byteOffset := 24 }, { name := "hash", type := 51, offset := 2, embedded := false, tag := "", pkgPath := "loop.example/g01182/spec", byteOffset := 32 }].toArray) 3 40 (cat [[.slice none 0 0], (enc xi), [.int .u64 0]]) := ⟨underlying210, by kernel_rfl⟩
theorem Zhl : Ty prog 277 (.pointer 322) 1 8 [.pointer none]:=⟨underlying277,by kernel_rfl⟩
theorem yY : Ty prog 280 (.struct [{ name := "box", type := 56, offset := 0, embedded := false, tag := "", pkgPath := "loop.example/g01182/impl", byteOffset := 0 }, { name := "backBox", type := 56, offset := 256, embedded := false, tag := "", pkgPath := "loop.example/g01182/impl", byteOffset := 256 }, { name := "places", type := 60, offset := 512, embedded := false, tag := "", pkgPath := "loop.example/g01182/impl", byteOffset := 512 }, { name := "backPlaces", type := 60, offset := 528, embedded := false, tag := "", pkgPath := "loop.example/g01182/impl", byteOffset := 528 }, { name := "mixer", type := 277, offset := 544, embedded := false, tag := "", pkgPath := "loop.example/g01182/impl", byteOffset := 544 }, { name := "backMixer", type := 277, offset := 545, embedded := false, tag := "", pkgPath := "loop.example/g01182/impl", byteOffset := 552 }, { name := "rounds", type := 2, offset := 546, embedded := false, tag := "", pkgPath := "loop.example/g01182/impl", byteOffset := 560 }].toArray) 547 568 (cat [enc xf, (enc xf), xl, xl, [.pointer none], [.pointer none], (enc xi)]) := ⟨underlying280, by kernel_rfl⟩
theorem km : Ty prog 320 (.array 4 55) 1024 1024 (enc (Vector.replicate 4 xf)):=⟨t_6,by kernel_rfl⟩
theorem ty322 : Ty prog 322 (.array 4 320) 4096 4096 (enc (Vector.replicate 4 (Vector.replicate 4 xf))):=⟨s_6,by kernel_rfl⟩
theorem Zax : Fd prog 62 0 0:=UN KU.und rfl rfl ty2 (by decide)
theorem yk : Fd prog 62 1 1:=UN KU.und rfl rfl Qe (by decide)
theorem qf : Fd prog 62 2 257:=UN KU.und rfl rfl JQ (by decide)
theorem jO : Fd prog 62 3 273:=UN KU.und rfl rfl Ap (by decide)
theorem Zdl : Fd prog 62 4 289:=UN KU.und rfl rfl ty2 (by decide)
theorem Xw : Fd prog 79 0 0:=UN ZG.und rfl rfl TF (by decide)
theorem Qw : Fd prog 79 1 1:=UN ZG.und rfl rfl ty2 (by decide)
theorem Ye : Fd prog 79 2 2:=UN ZG.und rfl rfl Xr (by decide)
theorem XA : Fd prog 79 3 3:=UN ZG.und rfl rfl T3 (by decide)
theorem J1 : Fd prog 79 4 4:=UN ZG.und rfl rfl ZW (by decide)
theorem VC : Fd prog 98 0 0:=UN Yk.und rfl rfl ty2 (by decide)
theorem TB : Fd prog 98 1 1:=UN Yk.und rfl rfl ty2 (by decide)
theorem Ho : Fd prog 98 2 2:=UN Yk.und rfl rfl ZL (by decide)
theorem Ka : Fd prog 98 3 18:=UN Yk.und rfl rfl Wo (by decide)
theorem Qh : Fd prog 98 4 19:=UN Yk.und rfl rfl Wo (by decide)
theorem Qg : Fd prog 98 5 20:=UN Yk.und rfl rfl ZW (by decide)
theorem KY : Fd prog 181 0 0:=UN Xn.und rfl rfl ty2 (by decide)
theorem JI : Fd prog 181 1 1:=UN Xn.und rfl rfl ty2 (by decide)
theorem jH : Fd prog 181 2 2:=UN Xn.und rfl rfl ZW (by decide)
theorem Zfn : Fd prog 210 0 0:=UN Zfw.und rfl rfl Wo (by decide)
theorem jK : Fd prog 210 1 1:=UN Zfw.und rfl rfl ty3 (by decide)
theorem zy : Fd prog 210 2 2:=UN Zfw.und rfl rfl ty51 (by decide)
theorem Zby : Fd prog 280 0 0:=UN yY.und rfl rfl Qe (by decide)
theorem fd280_1 : Fd prog 280 1 256:=UN yY.und rfl rfl Qe (by decide)
theorem Zkb : Fd prog 280 2 512:=UN yY.und rfl rfl Ap (by decide)
theorem fd280_3 : Fd prog 280 3 528:=UN yY.und rfl rfl Ap (by decide)
theorem Zjs : Fd prog 280 4 544:=UN yY.und rfl rfl Zhl (by decide)
theorem fd280_5 : Fd prog 280 5 545:=UN yY.und rfl rfl Zhl (by decide)
theorem Zj7 : Fd prog 280 6 546:=UN yY.und rfl rfl ty2 (by decide)
theorem pl62 : Places prog [{ name := "Field", type := 2, offset := 0, embedded := false, tag := "", pkgPath := "", byteOffset := 0 }, { name := "Box", type := 56, offset := 1, embedded := false, tag := "", pkgPath := "", byteOffset := 8 }, { name := "Mix", type := 59, offset := 257, embedded := false, tag := "", pkgPath := "", byteOffset := 264 }, { name := "Places", type := 60, offset := 273, embedded := false, tag := "", pkgPath := "", byteOffset := 280 }, { name := "Rounds", type := 2, offset := 289, embedded := false, tag := "", pkgPath := "", byteOffset := 296 }] [(0, 1), (1, 256), (257, 16), (273, 16), (289, 1)] := by show _ = _; kernel_rfl
theorem Ju : Places prog [{ name := "Keys", type := 75, offset := 0, embedded := false, tag := "", pkgPath := "", byteOffset := 0 }, { name := "Next", type := 2, offset := 1, embedded := false, tag := "", pkgPath := "", byteOffset := 24 }, { name := "Records", type := 76, offset := 2, embedded := false, tag := "", pkgPath := "", byteOffset := 32 }, { name := "Events", type := 77, offset := 3, embedded := false, tag := "", pkgPath := "", byteOffset := 56 }, { name := "Head", type := 32, offset := 4, embedded := false, tag := "", pkgPath := "", byteOffset := 80 }] [(0, 1), (1, 1), (2, 1), (3, 1), (4, 32)] := by show _ = _; kernel_rfl
theorem pl98 : Places prog [{ name := "Number", type := 2, offset := 0, embedded := false, tag := "", pkgPath := "", byteOffset := 0 }, { name := "Version", type := 2, offset := 1, embedded := false, tag := "", pkgPath := "", byteOffset := 8 }, { name := "Nonce", type := 53, offset := 2, embedded := false, tag := "", pkgPath := "", byteOffset := 16 }, { name := "Label", type := 22, offset := 18, embedded := false, tag := "", pkgPath := "", byteOffset := 32 }, { name := "Body", type := 22, offset := 19, embedded := false, tag := "", pkgPath := "", byteOffset := 56 }, { name := "Tag", type := 32, offset := 20, embedded := false, tag := "", pkgPath := "", byteOffset := 80 }] [(0, 1), (1, 1), (2, 16), (18, 1), (19, 1), (20, 32)] := by show _ = _; kernel_rfl
theorem Zap : Places prog [{ name := "Kind", type := 2, offset := 0, embedded := false, tag := "", pkgPath := "", byteOffset := 0 }, { name := "Number", type := 2, offset := 1, embedded := false, tag := "", pkgPath := "", byteOffset := 8 }, { name := "Tag", type := 32, offset := 2, embedded := false, tag := "", pkgPath := "", byteOffset := 16 }] [(0, 1), (1, 1), (2, 32)] := by show _ = _; kernel_rfl
theorem pl210 : Places prog [{ name := "code", type := 22, offset := 0, embedded := false, tag := "", pkgPath := "loop.example/g01182/spec", byteOffset := 0 }, { name := "at", type := 3, offset := 1, embedded := false, tag := "", pkgPath := "loop.example/g01182/spec", byteOffset := 24 }, { name := "hash", type := 51, offset := 2, embedded := false, tag := "", pkgPath := "loop.example/g01182/spec", byteOffset := 32 }] [(0, 1), (1, 1), (2, 1)] := by show _ = _; kernel_rfl
theorem pl280 : Places prog [{ name := "box", type := 56, offset := 0, embedded := false, tag := "", pkgPath := "loop.example/g01182/impl", byteOffset := 0 }, { name := "backBox", type := 56, offset := 256, embedded := false, tag := "", pkgPath := "loop.example/g01182/impl", byteOffset := 256 }, { name := "places", type := 60, offset := 512, embedded := false, tag := "", pkgPath := "loop.example/g01182/impl", byteOffset := 512 }, { name := "backPlaces", type := 60, offset := 528, embedded := false, tag := "", pkgPath := "loop.example/g01182/impl", byteOffset := 528 }, { name := "mixer", type := 277, offset := 544, embedded := false, tag := "", pkgPath := "loop.example/g01182/impl", byteOffset := 544 }, { name := "backMixer", type := 277, offset := 545, embedded := false, tag := "", pkgPath := "loop.example/g01182/impl", byteOffset := 552 }, { name := "rounds", type := 2, offset := 546, embedded := false, tag := "", pkgPath := "loop.example/g01182/impl", byteOffset := 560 }] [(0, 256), (256, 256), (512, 16), (528, 16), (544, 1), (545, 1), (546, 1)] := by show _ = _; kernel_rfl
theorem Yx : prog.follows .mixedOrders = true:=by kernel_rfl
theorem cb47 : Callable prog 47:=cbm func47
theorem cb48 : Callable prog 48:=cbm func48
theorem cb50 : Callable prog 50:=cbm func50
theorem cb76 : Callable prog 76:=cbm func76
theorem cb77 : Callable prog 77:=cbm func77
theorem Kc : Callable prog 79:=cbm func79
theorem cb84 : Callable prog 84:=cbm func84
theorem cb91 : Callable prog 91:=cbm func91
theorem cb96 : Callable prog 96:=cbm func96
theorem AA : Callable prog 108:=cbm func108
theorem kQ : Callable prog 132:=cbm func132
theorem Zi4 : Callable prog 133:=cbm func133
theorem zW : Callable prog 135:=cbm func135
theorem Zig : Callable prog 136:=cbm func136
theorem Zhc : Callable prog 137:=cbm func137
theorem Ze9 : Callable prog 139:=cbm func139
theorem qM : Callable prog 140:=cbm func140
theorem Zhn : Callable prog 141:=cbm func141
theorem Ze8 : Callable prog 145:=cbm func145
theorem yW : Callable prog 146:=cbm func146
theorem yO : Callable prog 148:=cbm func148
theorem yN : Callable prog 149:=cbm func149
theorem Zfu : Callable prog 151:=cbm func151
theorem Zik : Callable prog 152:=cbm func152
theorem Zck : Callable prog 153:=cbm func153
theorem Zf1 : Callable prog 154:=cbm func154
theorem Ze6 : Callable prog 160:=cbm func160
theorem Zc7 : Callable prog 163:=cbm func163
theorem Zix : Callable prog 179:=cbm func179
theorem Zfs : Callable prog 191:=cbm func191
theorem Zio : Callable prog 201:=cbm func201
theorem Zal : Callable prog 206:=cbm func206
theorem Zau : Callable prog 210:=cbm func210
theorem Zir : Callable prog 232:=cbm func232
theorem Zhz : Callable prog 235:=cbm func235
theorem Zfb : Callable prog 241:=cbm func241
theorem Zfg : Callable prog 243:=cbm func243
theorem Zh6 : Callable prog 245:=cbm func245
theorem yZ : Callable prog 289:=cbm func289
theorem Zfq : Callable prog 305:=cbm func305
theorem Zb7 : Callable prog 311:=cbm func311
def A1 (b : List UInt8) : Option (Bool) :=
 some (decide ((b.length : Int) > 4096))
theorem Zec (d : World) (e : List UInt8) (b : Value) (c : Ro d e [b]) (r : Bool) (J : A1 e = some r) :
  Calls prog 7 [b].toArray d (Rt d (vT r)):=by
 refine ce func7 ?_
 intro a H
 have I:=M.start d
 unfold A1 at J
 refine Zb (Zc H R λa H=>Ze (Zb (Zd H R λa H=>Yu H R o_2 (I.rd c) λa H=>Zn H R R R λa H=>Zc H R λa H=>Ze ?_)))
 obtain rfl:=o_1 J
 exact p_3 (kr1 H R R I.kept)
def Ky (e : List UInt8) (b : Int × Int) : Option (Fl (Int × Int) Int) :=
 (if decide (b.2 < (e.length : Int)) then (some (decide (b.2 < 4096))) else (some false) : Option (Bool)).bind λc=>if c then ((idx e b.2).bind λd=>some (Fl.nx (IntKind.u64.wrap ((IntKind.u64.wrap ((IntKind.u64.wrap (b.1 * 1099511628211)) + (bI d))) + 11),wr (b.2 + 1)))) else (some (Fl.ex b.1))
def X6 (b : List UInt8) : Option ((Int × Int)) :=
 (ZQ (Ky b) (IntKind.u64.wrap (9001 + (IntKind.u64.wrap (b.length : Int))),0)).bind λc=>some (0,c)
theorem Tp (St : Nat → Prop) (W B : World) (n : Item) (l : List UInt8) (c : Value) (e : Rep.sat St W l [c] []) (I : M St W B [n]) (r : xw) (J : X6 l = some r) :
  Calls prog 77 [c].toArray B (e_r λv w'=>(∃ (b : Nat),v = ptr b 0 ∧ M St W w' [raw b (cat [[c],[vI r.1],[Value.int .u64 r.2]]),n])):=by
 refine ce func77 ?_
 intro a H
 unfold X6 at J
 refine Zb (Zc H R λa H=>Ze (Zb (Zd H R λa H=>Zd H R λa H=>Yu H R o_2 (I.rd e) λa H=>B7 H Za ld R s_5 s_7 λa H=>Zn H R R R λa H=>Yi (parts:=[(0,.tmp 5),(2,.tmp 9)]) (vs:=[(0,c),(2,Value.int .u64 (IntKind.u64.wrap (9001 + (IntKind.u64.wrap (l.length : Int)))))]) (cs:=cat [[c],[vI 0],[Value.int .u64 (IntKind.u64.wrap (9001 + (IntKind.u64.wrap (l.length : Int))))]]) H Za ld R R Zfw pl210 (Ya (pre:=[]) (seg:=[xd]) (seg':=[c]) (post:=[[vI 0],[Value.int .u64 0]]) R cl0 R R (Z5 (I.rd e)) (Ya (pre:=[[c],[vI 0]]) (seg:=[Value.int .u64 0]) (seg':=[Value.int .u64 (IntKind.u64.wrap (9001 + (IntKind.u64.wrap (l.length : Int))))]) (post:=[]) R ck R R R YF)) λa H=>Z1 (cs:=cat [[c],[vI 0],[Value.int .u64 (IntKind.u64.wrap (9001 + (IntKind.u64.wrap (l.length : Int))))]]) H I Za ld R R λm w a I H=>Zc H R λa H=>Ze (s_2 (Zb (Zc H R λa H=>Ze ?_))))))
 obtain ⟨C,t,x⟩:=p_1 J
 refine ZV (λa w=>Env 38 a [(3,ptr m 0)] ∧ M St W w [raw m (cat [[c],[vI 0],[Value.int .u64 C]]),n]) ?_ ?_
 ·refine p_2 ?_
  refine ZP (λ(i : Int × Int) a w=>Env 38 a [(0,c),(3,ptr m 0),(4,vI i.2)] ∧ M St W w [raw m (cat [[c],[vI 0],[Value.int .u64 i.1]]),n]) t ⟨H.s,I⟩ ?_
  rintro i a w ⟨H,I⟩ F o y
  unfold Ky at o
  refine s_2 ?_
  obtain ⟨A,h,f⟩:=p_1 o
  refine ZI (λa w=>Env 38 a [(0,c),(3,ptr m 0),(4,vI i.2),(19,vT A)] ∧ M St W w [raw m (cat [[c],[vI 0],[Value.int .u64 i.1]]),n]) ?_ ?_
  ·refine t_1 (Zd H R λa H=>Zd H R λa H=>Yu H R o_2 (I.rd e) λa H=>Zn H R R R λa H=>Zd H R λa H=>?_)
   refine Yj (decide (i.2 < (l.length : Int))) (λd=>?_) (λd=>?_)
   ·have h:=Zt h d
    refine Zo H (Zg H R (lkb R d)) dd_ R λa H=>Yc H (Zg H R (lkb R d)) dd_ R R R λa H=>ZH H (lkb R d) R λa H=>Zj ?_
    obtain rfl:=o_1 h
    refine Zk ?_
    exact ⟨H.s,I⟩
   have h:=Zs h d
   refine k_s H d R R R λa H=>k_s H d R R R λa H=>Z2 H (lkb R d) R λa H=>Zj ?_
   obtain rfl:=o_1 h
   refine Zk ?_
   exact ⟨H.s,I⟩
  rintro a w ⟨H,I⟩
  refine c_if H R f ?_ ?_
  ·intro q f
   refine u_2 (ZA (s_2 (p_2 ?_)))
   obtain ⟨j,k,f⟩:=bix f
   refine Z9 [22,23,24,25,26,27,28,29,30,31,32,33,34,35,36] Yx R R dd_ R H I (q_m (λ_=>R) (q_m (λ_=>R) (qsP (λz=>YZ z.E Za ld R (kr0 R)) (qsP (λz=>Zi z.E Za ld R (zy) (kr0 R)) (qsP (λz=>Zz (v:=(Value.int .u64 i.1)) z.E Za ld R ty51 R (at_2 (z.M.ra0)) (kr0 R)) (qsP (v:=(Value.int .u64 (IntKind.u64.wrap (i.1 * 1099511628211)))) (λz=>Yc z.E Za ld R R R (kr0 R)) (q_m (λ_=>R) (q_m (λ_=>R) (qsP (λz=>Z6 z.E Za ld R R o_2 ty5 (z.M.rd e) k.1 (kr0 R)) (qsP (λz=>Zz (v:=(vB j)) z.E Za ld R ty5 R (YG (z.M.rd e) k.2) (kr0 R)) (qsP (λz=>Zjf z.E Za ld R u_3 s_7 (kr0 R)) (qsP (v:=(Value.int .u64 (IntKind.u64.wrap ((IntKind.u64.wrap (i.1 * 1099511628211)) + (bI j))))) (λz=>Yc z.E Za ld R R R (kr0 R)) (qsP (v:=(Value.int .u64 (IntKind.u64.wrap ((IntKind.u64.wrap ((IntKind.u64.wrap (i.1 * 1099511628211)) + (bI j))) + 11)))) (λz=>Yc z.E Za ld R R R (kr0 R)) (qsP (λz=>YZ z.E Za ld R (kr0 R)) (qsP (λz=>Zi z.E Za ld R (zy) (kr0 R)) qs0))))))))))))))) ?_
   ·intro a w u H I
    refine Zl (seg:=[Value.int .u64 (IntKind.u64.wrap ((IntKind.u64.wrap ((IntKind.u64.wrap (i.1 * 1099511628211)) + (bI j))) + 11))]) H I Za R R R ty51 R (ft_2 R) Zfh (sp_2 R) λw a I H=>Zj (Yy (ZA (t_1 (Zd H R λa H=>Zn H R R R λa H=>Zc H R λa H=>Zj (Zk ?_)))))
    exact ⟨_,ois f,H.s,I⟩
  intro q f
  refine s_4 (Zu (Zu (YE ?_)))
  obtain rfl:=y _ (ois f)
  refine Zk ?_
  exact ⟨H.s,I⟩
 rintro a w ⟨H,I⟩
 refine ZA (Zb (Zd H R λa H=>Zc H R λa H=>Ze ?_))
 obtain rfl:=o_1 x
 exact p_3 (ZY H R (Zy H R) ⟨_,R,m,R,I⟩)
def ZO (c : List UInt8) (b : (Int × Int)) (d : Int) : Option ((Int × Int) × Int) :=
 if decide (d < 1) then (some ((b.1,b.2),0)) else (((some (decide (b.1 < (c.length : Int))) : Option (Bool)).bind λi=>if i then (((idx c b.1).bind λe=>some (wr ((IntKind.i64.wrap (wru (BitVec.ofInt 64 (Vj (IntKind.u64.wrap ((IntKind.u64.wrap (b.2 * 6364136223846793005)) + 1442695040888963407)) 33) &&& BitVec.ofInt 64 16777215).toNat)) + (bI e))) : Option (Int)).bind λf=>some (wr (b.1 + 1),f)) else (some (b.1,IntKind.i64.wrap (wru (BitVec.ofInt 64 (Vj (IntKind.u64.wrap ((IntKind.u64.wrap (b.2 * 6364136223846793005)) + 1442695040888963407)) 33) &&& BitVec.ofInt 64 16777215).toNat))) : Option (Int × Int)).bind λh=>(zO d).bind λ_=>some ((h.1,IntKind.u64.wrap ((IntKind.u64.wrap (b.2 * 6364136223846793005)) + 1442695040888963407)),Int.tmod h.2 d))
theorem ZT (St : Nat → Prop) (W C : World) (m : Item) (d : Nat) (i : List UInt8) (b : Value) (e : Rep.sat St W i [b] []) (c : xw) (n : Int) (I : M St W C [raw d (cat [[b],[vI c.1],[Value.int .u64 c.2]]),m]) (r : xw × Int) (J : ZO i c n = some r) :
  Calls prog 79 [ptr d 0,vI n].toArray C (e_r λv w'=>(v = (vI r.2) ∧ M St W w' [raw d (cat [[b],[vI r.1.1],[Value.int .u64 r.1.2]]),m])):=by
 refine ce func79 ?_
 intro a H
 unfold ZO at J
 refine Zb (Zc H R λa H=>Ze (s_2 (Zb (Zd H R λa H=>Zn H R R R λa H=>Ze ?_))))
 refine c_if H R J ?_ ?_
 ·intro x J
  refine Zb (Zc H R λa H=>Ze ?_)
  obtain rfl:=o_1 J
  exact p_3 (ZJ (ZY H R (Zy H R) ⟨_,R,R,I⟩))
 intro x J
 refine u_2 (ZA (Zb (Zd H R λa H=>Zd H R λa H=>YZ H Za ld R λa H=>Zm H R (zy) λa H=>ZB (v:=(Value.int .u64 c.2)) H R ty51 R (at_2 I.ra0) λa H=>Zn H R R R λa H=>Zn H R R R λa H=>YZ H Za ld R λa H=>Zm H R (zy) λa H=>Zl (seg:=[Value.int .u64 (IntKind.u64.wrap ((IntKind.u64.wrap (c.2 * 6364136223846793005)) + 1442695040888963407))]) H I Za R R R ty51 R (ft_2 R) Zfh (sp_2 R) λw a I H=>Ze (Zb (Zd H R λa H=>YZ H Za ld R λa H=>?_)))))
 refine Zm H R (zy) λa H=>ZB (v:=(Value.int .u64 (IntKind.u64.wrap ((IntKind.u64.wrap (c.2 * 6364136223846793005)) + 1442695040888963407)))) H R ty51 R (at_2 I.ra0) λa H=>A2 H Za ld R R (bU_shr _ _ dd_) λa H=>Zn H R R R λa H=>B7 H Za ld R s_7 o_5 λa H=>Zc H R λa H=>Ze ?_
 obtain ⟨F,y,k⟩:=p_1 J
 refine ZI (λa w=>Env 58 a [(1,vI n),(5,vI F.2)] ∧ M St W w [raw d (cat [[b],[vI F.1],[Value.int .u64 (IntKind.u64.wrap ((IntKind.u64.wrap (c.2 * 6364136223846793005)) + 1442695040888963407))]]),m]) ?_ ?_
 ·obtain ⟨G,A,f⟩:=p_1 y
  refine ZI (λa w=>Env 58 a [(0,ptr d 0),(1,vI n),(5,vI (IntKind.i64.wrap (wru (BitVec.ofInt 64 (Vj (IntKind.u64.wrap ((IntKind.u64.wrap (c.2 * 6364136223846793005)) + 1442695040888963407)) 33) &&& BitVec.ofInt 64 16777215).toNat))),(33,vT G)] ∧ M St W w [raw d (cat [[b],[vI c.1],[Value.int .u64 (IntKind.u64.wrap ((IntKind.u64.wrap (c.2 * 6364136223846793005)) + 1442695040888963407))]]),m]) ?_ ?_
  ·refine Z9 [24,25,26,27,28,29,30,31,32,33] Yx R R dd_ R H I (q_m (λ_=>R) (qsP (λz=>YZ z.E Za ld R (kr0 R)) (qsP (λz=>Zi z.E Za ld R (jK) (kr0 R)) (qsP (λz=>Zz (v:=(vI c.1)) z.E Za ld R ty3 R (at_1 (z.M.ra0)) (kr0 R)) (q_m (λ_=>R) (qsP (λz=>YZ z.E Za ld R (kr0 R)) (qsP (λz=>Zi z.E Za ld R (Zfn) (kr0 R)) (qsP (λz=>Zz (v:=b) z.E Za ld R Wo R (at_0 (z.M.ra0)) (kr0 R)) (qsP (λz=>W2 z.E Za ld R o_2 (z.M.rd e) (kr0 R)) (qsP (λz=>Yc z.E Za ld R R R (kr0 R)) qs0)))))))))) ?_
   ·intro a w u H I
    refine Zj ?_
    obtain rfl:=o_1 A
    refine Zk ?_
    exact ⟨H.s,I⟩
  rintro a w ⟨H,I⟩
  refine c_if H R f ?_ ?_
  ·intro o f
   obtain ⟨B,h,q⟩:=p_1 f
   refine ZI (λa w=>Env 58 a [(0,ptr d 0),(1,vI n),(5,vI B)] ∧ M St W w [raw d (cat [[b],[vI c.1],[Value.int .u64 (IntKind.u64.wrap ((IntKind.u64.wrap (c.2 * 6364136223846793005)) + 1442695040888963407))]]),m]) ?_ ?_
   ·obtain ⟨t,j,h⟩:=bix h
    refine Z9 [34,35,36,37,38,39,40,41,42,43,44,45,46] Yx R R dd_ R H I (q_m (λ_=>R) (q_m (λ_=>R) (qsP (λz=>YZ z.E Za ld R (kr0 R)) (qsP (λz=>Zi z.E Za ld R (Zfn) (kr0 R)) (qsP (λz=>Zz (v:=b) z.E Za ld R Wo R (at_0 (z.M.ra0)) (kr0 R)) (q_m (λ_=>R) (qsP (λz=>YZ z.E Za ld R (kr0 R)) (qsP (λz=>Zi z.E Za ld R (jK) (kr0 R)) (qsP (λz=>Zz (v:=(vI c.1)) z.E Za ld R ty3 R (at_1 (z.M.ra0)) (kr0 R)) (qsP (λz=>Z6 z.E Za ld R R o_2 ty5 (z.M.rd e) j.1 (kr0 R)) (qsP (λz=>Zz (v:=(vB t)) z.E Za ld R ty5 R (YG (z.M.rd e) j.2) (kr0 R)) (qsP (λz=>zg z.E Za ld R u_3 o_5 (kr0 R)) (qsP (v:=(vI (wr ((IntKind.i64.wrap (wru (BitVec.ofInt 64 (Vj (IntKind.u64.wrap ((IntKind.u64.wrap (c.2 * 6364136223846793005)) + 1442695040888963407)) 33) &&& BitVec.ofInt 64 16777215).toNat)) + (bI t))))) (λz=>Yc z.E Za ld R R R (kr0 R)) qs0))))))))))))) ?_
    ·intro a w u H I
     refine Zc H R λa H=>Zj ?_
     obtain rfl:=o_1 h
     refine Zk ?_
     exact ⟨H.s,I⟩
   rintro a w ⟨H,I⟩
   refine t_1 (Zd H R λa H=>Zd H R λa H=>YZ H Za ld R λa H=>Zm H R (jK) λa H=>ZB (v:=(vI c.1)) H R ty3 R (at_1 I.ra0) λa H=>Zn H R R R λa H=>YZ H Za ld R λa H=>Zm H R (jK) λa H=>Zl (seg:=[vI (wr (c.1 + 1))]) H I Za R R R ty3 R (Xf (pre:=[[b]]) ck R) (s_1 (wr (c.1 + 1) : Int)) (Ym (pre:=[[b]]) ck R) λw a I H=>Zj ?_)
   obtain rfl:=o_1 q
   refine Zk ?_
   exact ⟨H.s,I⟩
  intro o f
  refine u_2 ?_
  obtain rfl:=o_1 f
  refine Zk ?_
  exact ⟨H.s,I⟩
 rintro a w ⟨H,I⟩
 refine Zb (Zd H R λa H=>Zd H R λa H=>?_)
 obtain ⟨_,l,k⟩:=p_1 k
 have l:=Zbk l
 refine Zn H R R (Jt _ _ l) λa H=>Zc H R λa H=>Ze ?_
 obtain rfl:=o_1 k
 exact p_3 (ZY H R (Zy H R) ⟨_,R,R,I⟩)
def Xv (b : List UInt8) (d : (Int × Int)) (e : List Int) : Option ((Int × Int) × Int) :=
 (ZO b (d.1,d.2) (e.length : Int)).bind λc=>(idx e c.2).bind λf=>some ((c.1.1,c.1.2),f)
theorem Vi (St : Nat → Prop) (W k : World) (l : Item) (d : Nat) (c : List UInt8) (b : Value) (e : Rep.sat St W c [b] []) (f : xw) (i : List Int) (j : Value) (I : M St W k [raw d (cat [[b],[vI f.1],[Value.int .u64 f.2]]),osl NoB i j,l]) (r : xw × Int) (J : Xv c f i = some r) :
  Calls prog 148 [ptr d 0,j].toArray k (e_r λv w'=>(v = (vI r.2) ∧ M St W w' [raw d (cat [[b],[vI r.1.1],[Value.int .u64 r.1.2]]),osl NoB i j,l])):=by
 refine ce func148 ?_
 intro a H
 unfold Xv at J
 refine Zb (Zc H R λa H=>Ze (Zb (Zd H R λa H=>Zd H R λa H=>Zd H R λa H=>Yu H R t_3 (I.sl1) λa H=>?_)))
 have I:=M.tailP (m:=[_]) I
 obtain ⟨n,o,J⟩:=p_1 J
 refine Zp H R Kc (ZT _ _ _ _ d c b e (f.1,f.2) (i.length : Int) I n o) ?_
 rintro v w a ⟨rfl,I⟩ H
 have I:=M.tailU (m:=[_]) I
 simp only [List.cons_append,List.nil_append] at I
 obtain ⟨q,h,J⟩:=bix J
 refine Yp H R R t_3 ty2 (I.sl1) h.1 λa H=>ZB (v:=(vI q)) H R ty2 R (YG (I.sl1) h.2) λa H=>Zc H R λa H=>Ze ?_
 obtain rfl:=o_1 J
 exact p_3 (ZY H R (Zy H R) ⟨_,R,R,I⟩)
def WX (b : List UInt8) (h : (Int × Int)) : Option ((Int × Int) × UInt8) :=
 (ZO b (h.1,h.2) 4).bind λc=>(ZO b (c.1.1,c.1.2) 256).bind λd=>(ZO b (d.1.1,d.1.2) 256).bind λe=>(Xv b (e.1.1,e.1.2) ([c.2,d.2,e.2,255] : List Int)).bind λf=>some ((f.1.1,f.1.2),ZC f.2)
theorem JX (St : Nat → Prop) (W n : World) (o : Item) (e : Nat) (c : List UInt8) (b : Value) (d : Rep.sat St W c [b] []) (j : xw) (I : M St W n [raw e (cat [[b],[vI j.1],[Value.int .u64 j.2]]),o]) (r : xw × UInt8) (J : WX c j = some r) :
  Calls prog 174 [ptr e 0].toArray n (e_r λv w'=>(v = (vB r.2) ∧ M St W w' [raw e (cat [[b],[vI r.1.1],[Value.int .u64 r.1.2]]),o])):=by
 refine ce func174 ?_
 intro a H
 unfold WX at J
 refine Zb (Zc H R λa H=>Ze (Zb (Zd H R λa H=>Zd H R λa H=>?_)))
 have I:=M.tailP (m:=[_]) I
 obtain ⟨f,q,J⟩:=p_1 J
 refine Zp H R Kc (ZT _ _ _ _ e c b d (j.1,j.2) 4 I f q) ?_
 rintro v w a ⟨rfl,I⟩ H
 have I:=M.tailU (m:=[_]) I
 simp only [List.cons_append,List.nil_append] at I
 refine Zd H R λa H=>?_
 have I:=M.tailP (m:=[_]) I
 obtain ⟨h,t,J⟩:=p_1 J
 refine Zp H R Kc (ZT _ _ _ _ e c b d (f.1.1,f.1.2) 256 I h t) ?_
 rintro v w a ⟨rfl,I⟩ H
 have I:=M.tailU (m:=[_]) I
 simp only [List.cons_append,List.nil_append] at I
 refine Zd H R λa H=>?_
 have I:=M.tailP (m:=[_]) I
 obtain ⟨i,u,J⟩:=p_1 J
 refine Zp H R Kc (ZT _ _ _ _ e c b d (h.1.1,h.1.2) 256 I i u) ?_
 rintro v w a ⟨rfl,I⟩ H
 have I:=M.tailU (m:=[_]) I
 simp only [List.cons_append,List.nil_append] at I
 refine ZM (xs:=[.tmp 5,.tmp 7,.tmp 9,.const (vI 255)]) (l:=([f.2,h.2,i.2,255] : List Int)) (vs:=[vI f.2,vI h.2,vI i.2,vI 255]) H I Za ld R R t_3 ty2 R dd_ R λx w a I H=>?_
 have I:=M.tailP (m:=[_,_]) I.pl1
 obtain ⟨y,k,J⟩:=p_1 J
 refine Zp H R yO (Vi _ _ _ _ e c b d (i.1.1,i.1.2) ([f.2,h.2,i.2,255] : List Int) x I y k) ?_
 rintro v w a ⟨rfl,I⟩ H
 have I:=M.tailU (m:=[_,_]) I
 simp only [List.cons_append,List.nil_append] at I
 refine Y5 H Za ld R o_5 u_3 λa H=>Zc H R λa H=>Ze ?_
 obtain rfl:=o_1 J
 have I:=(I.pl2.pl1.pl2).drop
 exact p_3 (ZY H R (Zy H R) ⟨_,R,R,I⟩)
def UX (d : List UInt8) (b : V16 × Int × Int × Int) : Option (Fl (V16 × Int × Int × Int) (V16 × Int × Int)) :=
 if decide (b.2.2.2 < 16) then ((ZO d (b.2.1,b.2.2.1) 256).bind λc=>(Z4 b.1 b.2.2.2).bind λe=>some (Fl.nx ((b.1.setIfInBounds (b.2.2.2).toNat (ZC c.2)),c.1.1,c.1.2,wr (b.2.2.2 + 1)))) else (some (Fl.ex (b.1,b.2.1,b.2.2.1)))
def YI (b : List UInt8) (h : (Int × Int)) : Option ((Int × Int) × V16) :=
 (ZO b (h.1,h.2) 5).bind λe=>if e.2 == 0 then ((ZO b (e.1.1,e.1.2) 16).bind λf=>(WX b (f.1.1,f.1.2)).bind λc=>(Z4 (Vector.replicate 16 (0 : UInt8)) f.2).bind λi=>some ((c.1.1,c.1.2),(Vector.replicate 16 (0 : UInt8)).setIfInBounds (f.2).toNat c.2)) else ((ZQ (UX b) ((Vector.replicate 16 (0 : UInt8)),e.1.1,e.1.2,0)).bind λd=>some ((d.2.1,d.2.2),d.1))
theorem Xy (St : Nat → Prop) (W O : World) (C : Item) (e : Nat) (f : List UInt8) (c : Value) (h : Rep.sat St W f [c] []) (q : xw) (I : M St W O [raw e (cat [[c],[vI q.1],[Value.int .u64 q.2]]),C]) (r : xw × V16) (J : YI f q = some r) :
  Calls prog 146 [ptr e 0].toArray O (e_r λv w'=>(v = (Value.agg (enc r.2).toArray) ∧ M St W w' [raw e (cat [[c],[vI r.1.1],[Value.int .u64 r.1.2]]),C])):=by
 refine ce func146 ?_
 intro a H
 unfold YI at J
 refine Zb (Zv H I ZL λE w a I H=>Ze (Zb (Y6 (parts:=[]) (vs:=[]) (cs:=enc xc) H Za ld R R ZL R ty5 YO λa H=>Zv H I ZL λF w a I H=>Zl (seg:=enc xc) (cs':=enc xc) H I Za R R R ZL (u_1 _) (zle flq) (s_1 _) (Zh flq) λw a I H=>Ze (s_2 (Zb (Zd H R λa H=>?_))))))
 have I:=M.tailP (m:=[_]) I.pl2
 obtain ⟨G,T,J⟩:=p_1 J
 refine Zp H R Kc (ZT _ _ _ _ e f c h (q.1,q.2) 5 I G T) ?_
 rintro v w a ⟨rfl,I⟩ H
 have I:=M.tailU (m:=[_]) I
 simp only [List.cons_append,List.nil_append] at I
 refine Zn H R R R λa H=>Ze ?_
 refine c_if H R J ?_ ?_
 ·intro K J
  refine Zb (Zd H R λa H=>?_)
  have I:=M.tailP (m:=[_]) I
  obtain ⟨o,U,J⟩:=p_1 J
  refine Zp H R Kc (ZT _ _ _ _ e f c h (G.1.1,G.1.2) 16 I o U) ?_
  rintro v w a ⟨rfl,I⟩ H
  have I:=M.tailU (m:=[_]) I
  simp only [List.cons_append,List.nil_append] at I
  refine Zd H R λa H=>?_
  have I:=M.tailP (m:=[_]) I
  obtain ⟨i,L,J⟩:=p_1 J
  refine Zp H R (cbm func174) (JX _ _ _ _ e f c h (o.1.1,o.1.2) I i L) ?_
  rintro v w a ⟨rfl,I⟩ H
  have I:=M.tailU (m:=[_]) I
  simp only [List.cons_append,List.nil_append] at I
  obtain ⟨X,k,J⟩:=bvx J
  refine ZR H R R o_4 ty5 k.1 λa H=>?_
  have I:=I.pl1
  refine Zl (seg:=[vB i.2]) (cs':=enc (xc.setIfInBounds (o.2).toNat i.2)) H I Za R R R ty5 R (Yf (v:=xc) (x:=i.2) k.1) (s_1 (i.2 : UInt8)) (ZS (v:=xc) (x:=i.2) k.1) λw a I H=>Ze (Zb (Zq H R ZL R I.ra0 (u_1 _) λa H=>?_))
  have I:=I.pl2
  refine Zl (seg:=enc (xc.setIfInBounds (o.2).toNat i.2)) (cs':=enc (xc.setIfInBounds (o.2).toNat i.2)) H I Za R R R ZL (u_1 _) (zle flq) (s_1 _) (Zh flq) λw a I H=>Ze ?_
  obtain rfl:=o_1 J
  have t : Z7 prog _ _ (.cell 2 53) _:=ZE H R ZL R I.ra0 (u_1 _) R
  have I:=((I.pl3.pl3.pl3).drop.pl2).drop
  exact p_3 (ZJ (ZY H R t ⟨_,R,R,I⟩))
 intro K J
 refine u_2 (ZA (s_2 (Zb (Zc H R λa H=>Ze ?_))))
 obtain ⟨l,u,y⟩:=p_1 J
 refine ZV (λa w=>Env 25 a [(2,ptr E 0),(3,ptr F 0)] ∧ M St W w [raw e (cat [[c],[vI l.2.1],[Value.int .u64 l.2.2]]),raw F (enc l.1),raw E xl,C]) ?_ ?_
 ·refine p_2 ?_
  refine ZP (λ(d : V16 × Int × Int × Int) a w=>Env 25 a [(0,ptr e 0),(2,ptr E 0),(3,ptr F 0),(4,vI d.2.2.2)] ∧ M St W w [raw e (cat [[c],[vI d.2.1],[Value.int .u64 d.2.2.1]]),raw F (enc d.1),raw E xl,C]) u ⟨H.s,I⟩ ?_
  rintro d a w ⟨H,I⟩ Y b z
  unfold UX at b
  refine s_2 (Zb (Zd H R λa H=>Zn H R R R λa H=>Ze ?_))
  refine c_if H R b ?_ ?_
  ·intro A b
   refine u_2 (ZA (s_2 (p_2 (t_1 (Zd H R λa H=>Zd H R λa H=>?_)))))
   have I:=M.tailP (m:=[_]) I
   obtain ⟨j,N,b⟩:=p_1 b
   refine Zp H R Kc (ZT _ _ _ _ e f c h (d.2.1,d.2.2.1) 256 I j N) ?_
   rintro v w a ⟨rfl,I⟩ H
   have I:=M.tailU (m:=[_]) I
   simp only [List.cons_append,List.nil_append] at I
   refine Y5 H Za ld R o_5 u_3 λa H=>?_
   obtain ⟨Z,n,b⟩:=bvx b
   refine ZR H R R o_4 ty5 n.1 λa H=>?_
   have I:=I.pl1
   refine Zl (seg:=[vB (ZC j.2)]) (cs':=enc (d.1.setIfInBounds (d.2.2.2).toNat (ZC j.2))) H I Za R R R ty5 R (Yf (v:=d.1) (x:=ZC j.2) n.1) (s_1 (ZC j.2 : UInt8)) (ZS (v:=d.1) (x:=ZC j.2) n.1) λw a I H=>Zj (Yy (ZA (t_1 (Zd H R λa H=>Zn H R R R λa H=>Zc H R λa H=>Zj (Zk ?_)))))
   have I:=I.pl3.pl3.pl2.pl3
   exact ⟨_,ois b,H.s,I⟩
  intro A b
  refine s_4 (Zu (Zu (YE ?_)))
  obtain rfl:=z _ (ois b)
  refine Zk ?_
  exact ⟨H.s,I⟩
 rintro a w ⟨H,I⟩
 refine ZA (Zb (Zq H R ZL R I.ra1 (u_1 _) λa H=>?_))
 have I:=I.pl2
 refine Zl (seg:=enc l.1) (cs':=enc l.1) H I Za R R R ZL (u_1 _) (zle flq) (s_1 _) (Zh flq) λw a I H=>Ze ?_
 obtain rfl:=o_1 y
 have B : Z7 prog _ _ (.cell 2 53) _:=ZE H R ZL R I.ra0 (u_1 _) R
 have I:=((I.pl3.pl2.pl3).drop.pl2).drop
 exact p_3 (ZY H R B ⟨_,R,R,I⟩)
def Wl (f : Int) (b : Int × Int × Int) : Option (Fl (Int × Int × Int) Int) :=
 if decide (b.2.2 > 0) then (((if (Int.tmod b.2.2 2) == 1 then (some (yx b.1 b.2.1)) else (some b.1) : Option (Int)).bind λc=>(if decide ((wr (b.2.1 * 2)) ≥ 256) then (some (yx (wr (b.2.1 * 2)) f)) else (some (wr (b.2.1 * 2))) : Option (Int)).bind λd=>some (c,d) : Option (Int × Int)).bind λe=>some (Fl.nx (e.1,e.2,wr (Int.tdiv b.2.2 2)))) else (some (Fl.ex b.1))
def XQ (b : Int) (c : UInt8) (d : UInt8) : Option (UInt8) :=
 (ZQ (Wl b) (0,bI c,bI d)).bind λe=>some (ZC e)
theorem T5 (d : World) (h : Int) (z : UInt8) (A : UInt8) (r : UInt8) (J : XQ h z A = some r) :
  Calls prog 311 [vI h,vB z,vB A].toArray d (Rt d (vB r)):=by
 refine ce func311 ?_
 intro a H
 have I:=M.start d
 unfold XQ at J
 refine Zb (Zc H R λa H=>Ze (Zb (Zd H R λa H=>zg H Za ld R u_3 o_5 λa H=>Zc H R λa H=>Zc H R λa H=>Ze (s_2 (Zb (Zd H R λa H=>zg H Za ld R u_3 o_5 λa H=>Zc H R λa H=>Ze ?_))))))
 obtain ⟨C,q,t⟩:=p_1 J
 refine ZV (λa w=>Env 33 a [(7,vI C)] ∧ M (Old d) d w []) ?_ ?_
 ·refine p_2 ?_
  refine ZP (λ(f : Int × Int × Int) a w=>Env 33 a [(0,vI h),(7,vI f.1),(8,vI f.2.1),(9,vI f.2.2)] ∧ M (Old d) d w []) q ⟨H.s,I⟩ ?_
  rintro f a w ⟨H,I⟩ E e u
  unfold Wl at e
  refine s_2 (Zb (Zd H R λa H=>Zn H R R R λa H=>Ze ?_))
  refine c_if H R e ?_ ?_
  ·intro x e
   refine u_2 (ZA ?_)
   obtain ⟨B,i,j⟩:=p_1 e
   refine ZI (λa w=>Env 33 a [(0,vI h),(7,vI B.1),(8,vI B.2),(9,vI f.2.2)] ∧ M (Old d) d w []) ?_ ?_
   ·refine p_2 ?_
    obtain ⟨k,b,l⟩:=p_1 i
    refine ZI (λa w=>Env 33 a [(0,vI h),(7,vI k),(8,vI f.2.1),(9,vI f.2.2)] ∧ M (Old d) d w []) ?_ ?_
    ·refine Zb (Zd H R λa H=>Zn H R R (Jt _ _ dd_) λa H=>Zn H R R R λa H=>Ze ?_)
     refine c_if H R b ?_ ?_
     ·intro m b
      refine t_1 (Zd H R λa H=>Zd H R λa H=>Zn H R R R λa H=>Zc H R λa H=>Zj ?_)
      obtain rfl:=o_1 b
      refine Zk ?_
      exact ⟨H.s,I⟩
     intro m b
     refine u_2 ?_
     obtain rfl:=o_1 b
     refine Zk ?_
     exact ⟨H.s,I⟩
    rintro a w ⟨H,I⟩
    refine Zb (Zd H R λa H=>Zn H R R R λa H=>Zc H R λa H=>Ze (Zb (Zd H R λa H=>Zn H R R R λa H=>Ze ?_)))
    obtain ⟨y,c,n⟩:=p_1 l
    refine ZV (λa w=>Env 33 a [(0,vI h),(7,vI k),(8,vI y),(9,vI f.2.2)] ∧ M (Old d) d w []) ?_ ?_
    ·refine c_if H R c ?_ ?_
     ·intro o c
      refine t_1 (Zd H R λa H=>Zd H R λa H=>Zn H R R R λa H=>Zc H R λa H=>Zj ?_)
      obtain rfl:=o_1 c
      refine Zk ?_
      exact ⟨H.s,I⟩
     intro o c
     refine u_2 ?_
     obtain rfl:=o_1 c
     refine Zk ?_
     exact ⟨H.s,I⟩
    rintro a w ⟨H,I⟩
    refine Yy ?_
    obtain rfl:=o_1 n
    refine Zk ?_
    exact ⟨H.s,I⟩
   rintro a w ⟨H,I⟩
   refine t_1 (Zd H R λa H=>Zn H R R (qg _ _ dd_) λa H=>Zc H R λa H=>Zj (Zk ?_))
   exact ⟨_,ois j,H.s,I⟩
  intro x e
  refine s_4 (Zu (Zu (YE ?_)))
  obtain rfl:=u _ (ois e)
  refine Zk ?_
  exact ⟨H.s,I⟩
 rintro a w ⟨H,I⟩
 refine ZA (Zb (Zd H R λa H=>Y5 H Za ld R o_5 u_3 λa H=>Zc H R λa H=>Ze ?_))
 obtain rfl:=o_1 t
 exact p_3 (kr1 H R R I.kept)
def Tf (h : Int) (b : UInt8 × UInt8 × Int) : Option (Fl (UInt8 × UInt8 × Int) UInt8) :=
 if decide (b.2.2 > 0) then (((if (Int.tmod b.2.2 2) == 1 then ((XQ h b.1 b.2.1).bind λd=>some d) else (some b.1) : Option (UInt8)).bind λe=>(XQ h b.2.1 b.2.1).bind λf=>some (e,f) : Option (UInt8 × UInt8)).bind λc=>some (Fl.nx (c.1,c.2,wr (Int.tdiv b.2.2 2)))) else (some (Fl.ex b.1))
def Tt (d : Int) (e : Int) (b : V256 × Int) : Option (Fl (V256 × Int) V256) :=
 if decide (b.2 < 256) then ((ZQ (Tf d) (1,ZC b.2,e)).bind λc=>(Z4 b.1 b.2).bind λf=>some (Fl.nx ((b.1.setIfInBounds (b.2).toNat c),wr (b.2 + 1)))) else (some (Fl.ex b.1))
def TS (b : Int) (c : Int) : Option (V256) :=
 (ZQ (Tt b c) ((Vector.replicate 256 (0 : UInt8)),0)).bind λd=>some d
theorem jt (e : World) (o : Int) (q : Int) (r : V256) (J : TS o q = some r) :
  Calls prog 262 [vI o,vI q].toArray e (Rt e (Value.agg (enc r).toArray)):=by
 refine ce func262 ?_
 intro a H
 have I:=M.start e
 unfold TS at J
 refine Zb (Zv H I Qe λj w a I H=>Ze (Zb (Y6 (parts:=[]) (vs:=[]) (cs:=enc xf) H Za ld R R Qe R ty5 YO λa H=>Zv H I Qe λk w a I H=>Zl (seg:=enc xf) (cs':=enc xf) H I Za R R R Qe (u_1 _) (zle flq) (s_1 _) (Zh flq) λw a I H=>Ze (s_2 (Zb (Zc H R λa H=>Ze ?_))))))
 obtain ⟨K,L,N⟩:=p_1 J
 refine ZV (λa w=>Env 37 a [(4,ptr j 0),(5,ptr k 0)] ∧ M (Old e) e w [raw k (enc K),raw j (enc xf)]) ?_ ?_
 ·refine p_2 ?_
  refine ZP (λ(f : V256 × Int) a w=>Env 37 a [(0,vI o),(1,vI q),(4,ptr j 0),(5,ptr k 0),(6,vI f.2)] ∧ M (Old e) e w [raw k (enc f.1),raw j (enc xf)]) L ⟨H.s,I⟩ ?_
  rintro f a w ⟨H,I⟩ Y h t
  unfold Tt at h
  refine s_2 (Zb (Zd H R λa H=>Zn H R R R λa H=>Ze ?_))
  refine c_if H R h ?_ ?_
  ·intro u h
   refine u_2 (ZA (s_2 (p_2 (Zb (Zd H R λa H=>Y5 H Za ld R s_5 u_3 λa H=>Zc H R λa H=>Zc H R λa H=>Ze (s_2 (Zb (Zd H R λa H=>Zc H R λa H=>Ze ?_))))))))
   obtain ⟨i,y,l⟩:=p_1 h
   refine ZV (λa w=>Env 37 a [(0,vI o),(1,vI q),(4,ptr j 0),(5,ptr k 0),(6,vI f.2),(7,vB i)] ∧ M (Old e) e w [raw k (enc f.1),raw j (enc xf)]) ?_ ?_
   ·refine p_2 ?_
    refine ZP (λ(b : UInt8 × UInt8 × Int) a w=>Env 37 a [(0,vI o),(1,vI q),(4,ptr j 0),(5,ptr k 0),(6,vI f.2),(7,vB b.1),(8,vB b.2.1),(9,vI b.2.2)] ∧ M (Old e) e w [raw k (enc f.1),raw j (enc xf)]) y ⟨H.s,I⟩ ?_
    rintro b a w ⟨H,I⟩ Z d z
    unfold Tf at d
    refine s_2 (Zb (Zd H R λa H=>Zn H R R R λa H=>Ze ?_))
    refine c_if H R d ?_ ?_
    ·intro A d
     refine u_2 (ZA ?_)
     obtain ⟨B,C,E⟩:=p_1 d
     refine ZI (λa w=>Env 37 a [(0,vI o),(1,vI q),(4,ptr j 0),(5,ptr k 0),(6,vI f.2),(7,vB B.1),(8,vB B.2),(9,vI b.2.2)] ∧ M (Old e) e w [raw k (enc f.1),raw j (enc xf)]) ?_ ?_
     ·refine p_2 ?_
      obtain ⟨O,c,m⟩:=p_1 C
      refine ZI (λa w=>Env 37 a [(0,vI o),(1,vI q),(4,ptr j 0),(5,ptr k 0),(6,vI f.2),(7,vB O),(8,vB b.2.1),(9,vI b.2.2)] ∧ M (Old e) e w [raw k (enc f.1),raw j (enc xf)]) ?_ ?_
      ·refine Zb (Zd H R λa H=>Zn H R R (Jt _ _ dd_) λa H=>Zn H R R R λa H=>Ze ?_)
       refine c_if H R c ?_ ?_
       ·intro F c
        refine t_1 (Zd H R λa H=>Zd H R λa H=>Zd H R λa H=>?_)
        obtain ⟨T,U,c⟩:=p_1 c
        refine c_k H I R Zb7 (T5 _ o b.1 b.2.1 T U) λw a I H=>?_
        refine Zc H R λa H=>Zj ?_
        obtain rfl:=o_1 c
        refine Zk ?_
        exact ⟨H.s,I⟩
       intro F c
       refine u_2 ?_
       obtain rfl:=o_1 c
       refine Zk ?_
       exact ⟨H.s,I⟩
      rintro a w ⟨H,I⟩
      refine t_1 (Zd H R λa H=>Zd H R λa H=>Zd H R λa H=>?_)
      obtain ⟨W,X,m⟩:=p_1 m
      refine c_k H I R Zb7 (T5 _ o b.2.1 b.2.1 W X) λw a I H=>?_
      refine Zc H R λa H=>Zj (Yy ?_)
      obtain rfl:=o_1 m
      refine Zk ?_
      exact ⟨H.s,I⟩
     rintro a w ⟨H,I⟩
     refine t_1 (Zd H R λa H=>Zn H R R (qg _ _ dd_) λa H=>Zc H R λa H=>Zj (Zk ?_))
     exact ⟨_,ois E,H.s,I⟩
    intro A d
    refine s_4 (Zu (Zu (YE ?_)))
    obtain rfl:=z _ (ois d)
    refine Zk ?_
    exact ⟨H.s,I⟩
   rintro a w ⟨H,I⟩
   refine ZA (t_1 (Zd H R λa H=>Zd H R λa H=>?_))
   obtain ⟨aa,n,l⟩:=bvx l
   refine ZR H R R p_6 ty5 n.1 λa H=>Zl (seg:=[vB i]) (cs':=enc (f.1.setIfInBounds (f.2).toNat i)) H I Za R R R ty5 R (Yf (v:=f.1) (x:=i) n.1) (s_1 (i : UInt8)) (ZS (v:=f.1) (x:=i) n.1) λw a I H=>Zj (Yy (ZA (t_1 (Zd H R λa H=>Zn H R R R λa H=>Zc H R λa H=>Zj (Zk ?_)))))
   exact ⟨_,ois l,H.s,I⟩
  intro u h
  refine s_4 (Zu (Zu (YE ?_)))
  obtain rfl:=t _ (ois h)
  refine Zk ?_
  exact ⟨H.s,I⟩
 rintro a w ⟨H,I⟩
 refine ZA (Zb (Zq H R Qe R I.ra0 (u_1 _) λa H=>?_))
 have I:=I.pl1
 refine Zl (seg:=enc K) (cs':=enc K) H I Za R R R Qe (u_1 _) (zle flq) (s_1 _) (Zh flq) λw a I H=>Ze ?_
 obtain rfl:=o_1 N
 have G : Z7 prog _ _ (.cell 4 56) _:=ZE H R Qe R I.ra0 (u_1 _) R
 exact p_3 (ZY H R G ⟨_,R,R,I.kept⟩)
def W8 (c : UInt8) (b : Int) : Option (UInt8) :=
 (Wy (IntKind.u64.wrap b)).bind λ_=>some (ZC (JG (orI (qq (bI c) (IntKind.u64.wrap b)) (Vj (qq (bI c) (IntKind.u64.wrap b)) 8)) 255))
theorem kY (b : World) (d : UInt8) (e : Int) (r : UInt8) (J : W8 d e = some r) :
  Calls prog 312 [vB d,vI e].toArray b (Rt b (vB r)):=by
 refine ce func312 ?_
 intro a H
 have I:=M.start b
 unfold W8 at J
 refine Zb (Zc H R λa H=>Ze (Zb (Zd H R λa H=>zg H Za ld R u_3 o_5 λa H=>Zd H R λa H=>B7 H Za ld R o_5 s_7 λa H=>?_)))
 obtain ⟨_,c,J⟩:=p_1 J
 have c:=VT c
 refine A2 H Za ld R R (Zdu _ _ c) λa H=>Zc H R λa H=>Ze (Zb (Zd H R λa H=>Zd H R λa H=>A2 H Za ld R R (BD _ _ dd_) λa H=>Zn H R R R λa H=>Zn H R R R λa H=>Y5 H Za ld R o_5 u_3 λa H=>Zc H R λa H=>Ze ?_))
 obtain rfl:=o_1 J
 exact p_3 (kr1 H R R I.kept)
def YY (e : List Int) (f : V256 × Int) (b : UInt8 × Int) : Option (Fl (UInt8 × Int) UInt8) :=
 if decide (b.2 < (e.length : Int)) then ((idx e b.2).bind λc=>(W8 (ZC f.2) c).bind λd=>some (Fl.nx (b.1 ^^^ d,wr (b.2 + 1)))) else (some (Fl.ex b.1))
def Vh (d : List Int) (e : UInt8) (b : V256 × Int) : Option (Fl (V256 × Int) V256) :=
 if decide (b.2 < 256) then ((ZQ (YY d b) (e,0)).bind λc=>(Z4 b.1 b.2).bind λf=>some (Fl.nx ((b.1.setIfInBounds (b.2).toNat c),wr (b.2 + 1)))) else (some (Fl.ex b.1))
def VH (b : List Int) (c : UInt8) : Option (V256) :=
 (ZQ (Vh b c) ((Vector.replicate 256 (0 : UInt8)),0)).bind λd=>some d
theorem Au (h : World) (N : List Int) (c : Value) (d : Ro h N [c]) (q : UInt8) (r : V256) (J : VH N q = some r) :
  Calls prog 263 [c,vB q].toArray h (Rt h (Value.agg (enc r).toArray)):=by
 refine ce func263 ?_
 intro a H
 have I:=M.start h
 unfold VH at J
 refine Zb (Zv H I Qe λm w a I H=>Ze (Zb (Y6 (parts:=[]) (vs:=[]) (cs:=enc xf) H Za ld R R Qe R ty5 YO λa H=>Zv H I Qe λn w a I H=>Zl (seg:=enc xf) (cs':=enc xf) H I Za R R R Qe (u_1 _) (zle flq) (s_1 _) (Zh flq) λw a I H=>Ze (s_2 (Zb (Zc H R λa H=>Ze ?_))))))
 obtain ⟨F,G,K⟩:=p_1 J
 refine ZV (λa w=>Env 34 a [(4,ptr m 0),(5,ptr n 0)] ∧ M (Old h) h w [raw n (enc F),raw m (enc xf)]) ?_ ?_
 ·refine p_2 ?_
  refine ZP (λ(i : V256 × Int) a w=>Env 34 a [(0,c),(1,vB q),(4,ptr m 0),(5,ptr n 0),(6,vI i.2)] ∧ M (Old h) h w [raw n (enc i.1),raw m (enc xf)]) G ⟨H.s,I⟩ ?_
  rintro i a w ⟨H,I⟩ O e t
  unfold Vh at e
  refine s_2 (Zb (Zd H R λa H=>Zn H R R R λa H=>Ze ?_))
  refine c_if H R e ?_ ?_
  ·intro u e
   refine u_2 (ZA (s_2 (p_2 (Zb (Zd H R λa H=>Zc H R λa H=>Ze (s_2 (Zb (Zc H R λa H=>Ze ?_))))))))
   obtain ⟨f,y,j⟩:=p_1 e
   refine ZV (λa w=>Env 34 a [(0,c),(1,vB q),(4,ptr m 0),(5,ptr n 0),(6,vI i.2),(7,vB f)] ∧ M (Old h) h w [raw n (enc i.1),raw m (enc xf)]) ?_ ?_
   ·refine p_2 ?_
    refine ZP (λ(l : UInt8 × Int) a w=>Env 34 a [(0,c),(1,vB q),(4,ptr m 0),(5,ptr n 0),(6,vI i.2),(7,vB l.1),(8,vI l.2)] ∧ M (Old h) h w [raw n (enc i.1),raw m (enc xf)]) y ⟨H.s,I⟩ ?_
    rintro l a w ⟨H,I⟩ T b z
    unfold YY at b
    refine s_2 (Zb (Zd H R λa H=>Zd H R λa H=>Yu H R t_3 (I.rd d) λa H=>Zn H R R R λa H=>Ze ?_))
    refine c_if H R b ?_ ?_
    ·intro A b
     refine u_2 (ZA (s_2 (p_2 (t_1 (Zd H R λa H=>Zd H R λa H=>Y5 H Za ld R s_5 u_3 λa H=>Zd H R λa H=>Zd H R λa H=>?_)))))
     obtain ⟨B,o,b⟩:=bix b
     refine Yp H R R t_3 ty2 (I.rd d) o.1 λa H=>ZB (v:=(vI B)) H R ty2 R (YG (I.rd d) o.2) λa H=>?_
     obtain ⟨C,L,b⟩:=p_1 b
     refine c_k H I R (cbm func312) (kY _ (ZC i.2) B C L) λw a I H=>?_
     refine Zn H R R (Uj l.1 C) λa H=>Zc H R λa H=>Zj (Yy (ZA (t_1 (Zd H R λa H=>Zn H R R R λa H=>Zc H R λa H=>Zj (Zk ?_)))))
     exact ⟨_,ois b,H.s,I⟩
    intro A b
    refine s_4 (Zu (Zu (YE ?_)))
    obtain rfl:=z _ (ois b)
    refine Zk ?_
    exact ⟨H.s,I⟩
   rintro a w ⟨H,I⟩
   refine ZA (t_1 (Zd H R λa H=>Zd H R λa H=>?_))
   obtain ⟨U,k,j⟩:=bvx j
   refine ZR H R R p_6 ty5 k.1 λa H=>Zl (seg:=[vB f]) (cs':=enc (i.1.setIfInBounds (i.2).toNat f)) H I Za R R R ty5 R (Yf (v:=i.1) (x:=f) k.1) (s_1 (f : UInt8)) (ZS (v:=i.1) (x:=f) k.1) λw a I H=>Zj (Yy (ZA (t_1 (Zd H R λa H=>Zn H R R R λa H=>Zc H R λa H=>Zj (Zk ?_)))))
   exact ⟨_,ois j,H.s,I⟩
  intro u e
  refine s_4 (Zu (Zu (YE ?_)))
  obtain rfl:=t _ (ois e)
  refine Zk ?_
  exact ⟨H.s,I⟩
 rintro a w ⟨H,I⟩
 refine ZA (Zb (Zq H R Qe R I.ra0 (u_1 _) λa H=>?_))
 have I:=I.pl1
 refine Zl (seg:=enc F) (cs':=enc F) H I Za R R R Qe (u_1 _) (zle flq) (s_1 _) (Zh flq) λw a I H=>Ze ?_
 obtain rfl:=o_1 K
 have E : Z7 prog _ _ (.cell 4 56) _:=ZE H R Qe R I.ra0 (u_1 _) R
 exact p_3 (ZY H R E ⟨_,R,R,I.kept⟩)
def TU (e : V256) (f : V256) (b : V256 × Int) : Option (Fl (V256 × Int) V256) :=
 if decide (b.2 < 256) then ((Z4 e b.2).bind λc=>(Z4 f (bI c)).bind λd=>(Z4 b.1 b.2).bind λh=>some (Fl.nx ((b.1.setIfInBounds (b.2).toNat d),wr (b.2 + 1)))) else (some (Fl.ex b.1))
def Qt (b : V256) (c : V256) : Option (V256) :=
 (ZQ (TU b c) ((Vector.replicate 256 (0 : UInt8)),0)).bind λd=>some d
theorem jQ (i : World) (q : V256) (t : V256) (r : V256) (J : Qt q t = some r) :
  Calls prog 261 [Value.agg (enc q).toArray,Value.agg (enc t).toArray].toArray i (Rt i (Value.agg (enc r).toArray)):=by
 refine ce func261 ?_
 intro a H
 have I:=M.start i
 unfold Qt at J
 refine Zb (Z1 (cs:=enc q) H I Za ld R R λB w a I H=>Z1 (cs:=enc t) H I Za ld R R λC w a I H=>Zv H I Qe λu w a I H=>Ze (Zb (Y6 (parts:=[]) (vs:=[]) (cs:=enc xf) H Za ld R R Qe R ty5 YO λa H=>Zv H I Qe λy w a I H=>Zl (seg:=enc xf) (cs':=enc xf) H I Za R R R Qe (u_1 _) (zle flq) (s_1 _) (Zh flq) λw a I H=>Ze (s_2 (Zb (Zc H R λa H=>Ze ?_))))))
 obtain ⟨z,j,k⟩:=p_1 J
 refine ZV (λa w=>Env 20 a [(4,ptr u 0),(5,ptr y 0)] ∧ M (Old i) i w [raw y (enc z),raw u (enc xf)]) ?_ ?_
 ·refine p_2 ?_
  refine ZP (λ(c : V256 × Int) a w=>Env 20 a [(2,ptr B 0),(3,ptr C 0),(4,ptr u 0),(5,ptr y 0),(6,vI c.2)] ∧ M (Old i) i w [raw y (enc c.1),raw u (enc xf),raw C (enc t),raw B (enc q)]) j ⟨H.s,I⟩ ?_
  rintro c a w ⟨H,I⟩ E b m
  unfold TU at b
  refine s_2 (Zb (Zd H R λa H=>Zn H R R R λa H=>Ze ?_))
  refine c_if H R b ?_ ?_
  ·intro n b
   refine u_2 (ZA (s_2 (p_2 (t_1 (Zd H R λa H=>Zd H R λa H=>?_)))))
   obtain ⟨A,f,b⟩:=bvx b
   refine ZR H R R p_6 ty5 f.1 λa H=>ZB (v:=(vB A)) H R ty5 R (At.vec I.ra3 f.2) λa H=>?_
   obtain ⟨d,h,b⟩:=bvx b
   refine ZR H R R p_6 ty5 h.1 λa H=>ZB (v:=(vB d)) H R ty5 R (At.vec I.ra2 h.2) λa H=>?_
   obtain ⟨F,e,b⟩:=bvx b
   refine ZR H R R p_6 ty5 e.1 λa H=>Zl (seg:=[vB d]) (cs':=enc (c.1.setIfInBounds (c.2).toNat d)) H I Za R R R ty5 R (Yf (v:=c.1) (x:=d) e.1) (s_1 (d : UInt8)) (ZS (v:=c.1) (x:=d) e.1) λw a I H=>Zj (Yy (ZA (t_1 (Zd H R λa H=>Zn H R R R λa H=>Zc H R λa H=>Zj (Zk ?_)))))
   exact ⟨_,ois b,H.s,I⟩
  intro n b
  refine s_4 (Zu (Zu (YE ?_)))
  obtain rfl:=m _ (ois b)
  refine Zk ?_
  have I:=M.fst (l:=[_,_]) I.pl1.pl1
  exact ⟨H.s,I⟩
 rintro a w ⟨H,I⟩
 refine ZA (Zb (Zq H R Qe R I.ra0 (u_1 _) λa H=>?_))
 have I:=I.pl1
 refine Zl (seg:=enc z) (cs':=enc z) H I Za R R R Qe (u_1 _) (zle flq) (s_1 _) (Zh flq) λw a I H=>Ze ?_
 obtain rfl:=o_1 k
 have o : Z7 prog _ _ (.cell 4 56) _:=ZE H R Qe R I.ra0 (u_1 _) R
 exact p_3 (ZY H R o ⟨_,R,R,I.kept⟩)
def QX (f : Int) (b : UInt8 × Int × UInt8) : Option (Fl (UInt8 × Int × UInt8) UInt8) :=
 if decide (b.2.1 > 0) then (((if (Int.tmod b.2.1 2) == 1 then ((XQ f b.2.2 b.1).bind λc=>some c) else (some b.2.2) : Option (UInt8)).bind λd=>(XQ f b.1 b.1).bind λe=>some (e,d) : Option (UInt8 × UInt8)).bind λh=>some (Fl.nx (h.1,wr (Int.tdiv b.2.1 2),h.2))) else (some (Fl.ex b.2.2))
def Ut (b : Int) (c : UInt8) (d : Int) : Option (UInt8) :=
 (ZQ (QX b) (c,d,1)).bind λe=>some e
theorem ja (d : World) (h : Int) (z : UInt8) (A : Int) (r : UInt8) (J : Ut h z A = some r) :
  Calls prog 313 [vI h,vB z,vI A].toArray d (Rt d (vB r)):=by
 refine ce func313 ?_
 intro a H
 have I:=M.start d
 unfold Ut at J
 refine Zb (Zc H R λa H=>Ze (Zb (Zc H R λa H=>Ze ?_)))
 obtain ⟨C,l,m⟩:=p_1 J
 refine ZI (λa w=>Env 24 a [(7,vB C)] ∧ M (Old d) d w []) ?_ ?_
 ·refine p_2 ?_
  refine ZP (λ(e : UInt8 × Int × UInt8) a w=>Env 24 a [(0,vI h),(1,vB e.1),(2,vI e.2.1),(7,vB e.2.2)] ∧ M (Old d) d w []) l ⟨H.s,I⟩ ?_
  rintro e a w ⟨H,I⟩ E c n
  unfold QX at c
  refine s_2 (Zb (Zd H R λa H=>Zn H R R R λa H=>Ze ?_))
  refine c_if H R c ?_ ?_
  ·intro o c
   refine u_2 (ZA ?_)
   obtain ⟨B,i,j⟩:=p_1 c
   refine ZI (λa w=>Env 24 a [(0,vI h),(1,vB B.1),(2,vI e.2.1),(7,vB B.2)] ∧ M (Old d) d w []) ?_ ?_
   ·refine p_2 ?_
    obtain ⟨q,b,f⟩:=p_1 i
    refine ZI (λa w=>Env 24 a [(0,vI h),(1,vB e.1),(2,vI e.2.1),(7,vB q)] ∧ M (Old d) d w []) ?_ ?_
    ·refine Zb (Zd H R λa H=>Zn H R R (Jt _ _ dd_) λa H=>Zn H R R R λa H=>Ze ?_)
     refine c_if H R b ?_ ?_
     ·intro k b
      refine t_1 (Zd H R λa H=>Zd H R λa H=>Zd H R λa H=>?_)
      obtain ⟨t,u,b⟩:=p_1 b
      refine c_k H I R Zb7 (T5 _ h e.2.2 e.1 t u) λw a I H=>?_
      refine Zc H R λa H=>Zj ?_
      obtain rfl:=o_1 b
      refine Zk ?_
      exact ⟨H.s,I⟩
     intro k b
     refine u_2 ?_
     obtain rfl:=o_1 b
     refine Zk ?_
     exact ⟨H.s,I⟩
    rintro a w ⟨H,I⟩
    refine t_1 (Zd H R λa H=>Zd H R λa H=>Zd H R λa H=>?_)
    obtain ⟨x,y,f⟩:=p_1 f
    refine c_k H I R Zb7 (T5 _ h e.1 e.1 x y) λw a I H=>?_
    refine Zc H R λa H=>Zj (Yy ?_)
    obtain rfl:=o_1 f
    refine Zk ?_
    exact ⟨H.s,I⟩
   rintro a w ⟨H,I⟩
   refine t_1 (Zd H R λa H=>Zn H R R (qg _ _ dd_) λa H=>Zc H R λa H=>Zj (Zk ?_))
   exact ⟨_,ois j,H.s,I⟩
  intro o c
  refine s_4 (Zu (Zu (YE ?_)))
  obtain rfl:=n _ (ois c)
  refine Zk ?_
  exact ⟨H.s,I⟩
 rintro a w ⟨H,I⟩
 refine Zb (Zd H R λa H=>Zc H R λa H=>Ze ?_)
 obtain rfl:=o_1 m
 exact p_3 (kr1 H R R I.kept)
def U3 (b : Int) (c : UInt8) : Option (UInt8) :=
 (Ut b c 254).bind λd=>some d
theorem qo (b : World) (c : Int) (d : UInt8) (r : UInt8) (J : U3 c d = some r) :
  Calls prog 264 [vI c,vB d].toArray b (Rt b (vB r)):=by
 refine ce func264 ?_
 intro a H
 have I:=M.start b
 unfold U3 at J
 refine Zb (Zc H R λa H=>Ze (Zb (Zd H R λa H=>Zd H R λa H=>?_)))
 obtain ⟨e,f,J⟩:=p_1 J
 refine c_k H I R (cbm func313) (ja _ c d 254 e f) λw a I H=>?_
 refine Zc H R λa H=>Ze ?_
 obtain rfl:=o_1 J
 exact p_3 (kr1 H R R I.kept)
def Q5 (c : (Vector (Vector UInt8 4) 4) × Int) (b : (Vector (Vector UInt8 4) 4) × Int) : Option (Fl ((Vector (Vector UInt8 4) 4) × Int) (Vector (Vector UInt8 4) 4)) :=
 if decide (b.2 < 4) then ((U3 285 (ZC (yx c.2 (wr (4 + b.2))))).bind λe=>(Z4 b.1 c.2).bind λd=>(Z4 d b.2).bind λf=>some (Fl.nx ((b.1.setIfInBounds (c.2).toNat (d.setIfInBounds (b.2).toNat e)),wr (b.2 + 1)))) else (some (Fl.ex b.1))
def QV (b : (Vector (Vector UInt8 4) 4) × Int) : Option (Fl ((Vector (Vector UInt8 4) 4) × Int) (Vector (Vector UInt8 4) 4)) :=
 if decide (b.2 < 4) then ((ZQ (Q5 b) (b.1,0)).bind λc=>some (Fl.nx (c,wr (b.2 + 1)))) else (some (Fl.ex b.1))
def Q3 (b : V16 × Int) : Option (Fl (V16 × Int) V16) :=
 if decide (b.2 < 16) then ((Z4 b.1 b.2).bind λc=>some (Fl.nx ((b.1.setIfInBounds (b.2).toNat (ZC (Int.tmod (wr ((wr (13 * b.2)) + 4)) 16))),wr (b.2 + 1)))) else (some (Fl.ex b.1))
def TV (e : Int) : Option (GCipher) :=
 (TS 285 254).bind λf=>(VH ([0,1,4] : List Int) 90).bind λh=>(Qt f h).bind λb=>(ZQ (QV) ((Vector.replicate 4 (Vector.replicate 4 (0 : UInt8))),0)).bind λc=>(ZQ (Q3) ((Vector.replicate 16 (0 : UInt8)),0)).bind λd=>some (⟨285,b,c,d,e⟩ : GCipher)
theorem jp (t : World) (f : Int) (r : GCipher) (J : TV f = some r) :
  Calls prog 192 [vI f].toArray t (Rt t (Value.agg (enc r).toArray)):=by
 refine ce func192 ?_
 intro a H
 have I:=M.start t
 unfold TV at J
 refine Zb (Zv H I KU λB w a I H=>Ze (Zb (Zd H R λa H=>Yi (parts:=[(0,.const (vI 285)),(4,.tmp 7)]) (vs:=[(0,vI 285),(4,vI f)]) (cs:=cat [xt,enc xf,enc xe,enc xc,[vI f]]) H Za ld R R KU pl62 (Ya (pre:=[]) (seg:=[vI 0]) (seg':=xt) (post:=[enc xf,enc xe,enc xc,[vI 0]]) R cl0 R R R (Ya (pre:=[xt,enc xf,enc xe,enc xc]) (seg:=[vI 0]) (seg':=[vI f]) (post:=[]) R ck R R R YF)) λa H=>Zv H I KU λC w a I H=>Zl (seg:=cat [xt,enc xf,enc xe,enc xc,[vI f]]) (cs':=cat [xt,enc xf,enc xe,enc xc,[vI f]]) H I Za R R R KU cq (q_1 cq cq) (ZD (cc1 (s_1 (285 : Int)) (cc1 (s_1 _) (cc1 (s_1 _) (cc1 (s_1 _) (cc1 (s_1 (f : Int)) cc0)))))) (q_2 cq cq) λw a I H=>Ze (Zb ?_))))
 obtain ⟨r5,e6,J⟩:=p_1 J
 refine c_k H I R (cbm func262) (jt _ 285 254 r5 e6) λw a I H=>?_
 refine ZM (xs:=[.const (vI 0),.const (vI 1),.const (vI 4)]) (l:=([0,1,4] : List Int)) (vs:=[vI 0,vI 1,vI 4]) H I Za ld R R t_3 ty2 R dd_ R λu7 w a I H=>?_
 obtain ⟨r9,ac,J⟩:=p_1 J
 refine c_k H I R (cbm func263) (Au _ ([0,1,4] : List Int) u7 (I.sl0) 90 r9 ac) λw a I H=>?_
 obtain ⟨b,ad,J⟩:=p_1 J
 refine c_k H I R (cbm func261) (jQ _ r5 r9 b ad) λw a I H=>?_
 refine Zm H R (yk) λa H=>?_
 have I:=I.pl1
 refine Zl (seg:=enc b) H I Za R R R Qe (u_1 _) (Xf (pre:=[xt]) ck flq) (s_1 _) (Ym (pre:=[xt]) ck flq) λw a I H=>Ze (s_2 (Zb (Zc H R λa H=>Ze ?_)))
 obtain ⟨d,G,K⟩:=p_1 J
 refine ZV (λa w=>Env 46 a [(2,ptr B 0),(3,ptr C 0)] ∧ M (Old t) t w [raw C (cat [xt,enc b,enc d,enc xc,[vI f]]),raw B xj]) ?_ ?_
 ·refine p_2 ?_
  have I:=M.fst (l:=[_,_]) I.pl2.pl1
  refine ZP (λ(k : xk × Int) a w=>Env 46 a [(2,ptr B 0),(3,ptr C 0),(4,vI k.2)] ∧ M (Old t) t w [raw C (cat [xt,enc b,enc k.1,enc xc,[vI f]]),raw B xj]) G ⟨H.s,I⟩ ?_
  rintro k a w ⟨H,I⟩ ak m L
  unfold QV at m
  refine s_2 (Zb (Zd H R λa H=>Zn H R R R λa H=>Ze ?_))
  refine c_if H R m ?_ ?_
  ·intro N m
   refine u_2 (ZA (s_2 (p_2 (Zb (Zc H R λa H=>Ze ?_)))))
   obtain ⟨ae,O,T⟩:=p_1 m
   refine ZV (λa w=>Env 46 a [(2,ptr B 0),(3,ptr C 0),(4,vI k.2)] ∧ M (Old t) t w [raw C (cat [xt,enc b,enc ae,enc xc,[vI f]]),raw B xj]) ?_ ?_
   ·refine p_2 ?_
    refine ZP (λ(h : xk × Int) a w=>Env 46 a [(2,ptr B 0),(3,ptr C 0),(4,vI k.2),(5,vI h.2)] ∧ M (Old t) t w [raw C (cat [xt,enc b,enc h.1,enc xc,[vI f]]),raw B xj]) O ⟨H.s,I⟩ ?_
    rintro h a w ⟨H,I⟩ al c U
    unfold Q5 at c
    refine s_2 (Zb (Zd H R λa H=>Zn H R R R λa H=>Ze ?_))
    refine c_if H R c ?_ ?_
    ·intro W c
     refine u_2 (ZA (s_2 (p_2 ?_)))
     obtain ⟨o,af,c⟩:=p_1 c
     obtain ⟨F,y,c⟩:=bvx c
     obtain ⟨am,q,c⟩:=bvx c
     refine Z9 [22,23,24,25,26,27,28,29,30,31,32] Yx R R dd_ R H I (q_m (λ_=>R) (q_m (λ_=>R) (q_m (λ_=>R) (q_m (λ_=>R) (qsP (v:=(vI (wr (4 + h.2)))) (λz=>Yc z.E Za ld R R R (kr0 R)) (qsP (v:=(vI (yx k.2 (wr (4 + h.2))))) (λz=>Yc z.E Za ld R R R (kr0 R)) (qsP (λz=>Y5 z.E Za ld R s_5 u_3 (kr0 R)) (qsP (λz=>Z8 z.E Za ld R (cbm func264) (qo _ 285 (ZC (yx k.2 (wr (4 + h.2)))) o af) (kc R)) (qsP (λz=>Zi z.E Za ld R (qf) (kr0 R)) (qsP (λz=>Z0 z.E Za ld R R u_4 TQ y.1 (kr0 R)) (qsP (λz=>Z0 z.E Za ld R R t_5 ty5 q.1 (kr0 R)) qs0))))))))))) ?_
     ·intro a w u H I
      refine Zl (seg:=[vB o]) (cs':=cat [xt,enc b,enc (h.1.setIfInBounds (k.2).toNat (F.setIfInBounds (h.2).toNat o)),enc xc,[vI f]]) H I Za R R R ty5 R (J8 (o':=(k.2).toNat * 4 + (0 + (h.2).toNat * 1)) (pre:=[xt,enc b]) (seg:=enc h.1) (post:=[enc xc,[vI f]]) ck (TX (o':=0 + (h.2).toNat * 1) y (Yf (v:=F) (x:=o) q.1) (by first | omega | (simp only [Flat.n] <;> omega))) (by first | omega | (simp only [Flat.n] <;> omega))) (s_1 (o : UInt8)) (Qu (o':=(k.2).toNat * 4 + (0 + (h.2).toNat * 1)) (pre:=[xt,enc b]) (seg:=enc h.1) (post:=[enc xc,[vI f]]) ck (TX (o':=0 + (h.2).toNat * 1) y (Yf (v:=F) (x:=o) q.1) (by first | omega | (simp only [Flat.n] <;> omega))) (UH (o':=0 + (h.2).toNat * 1) y (Yf (v:=F) (x:=o) q.1) (ZS (v:=F) (x:=o) q.1) (by first | omega | (simp only [Flat.n] <;> omega))) (by first | omega | (simp only [Flat.n] <;> omega))) λw a I H=>Zj (Yy (ZA (t_1 (Zd H R λa H=>Zn H R R R λa H=>Zc H R λa H=>Zj (Zk ?_)))))
      exact ⟨_,ois c,H.s,I⟩
    intro W c
    refine s_4 (Zu (Zu (YE ?_)))
    obtain rfl:=U _ (ois c)
    refine Zk ?_
    exact ⟨H.s,I⟩
   rintro a w ⟨H,I⟩
   refine Yy (ZA (t_1 (Zd H R λa H=>Zn H R R R λa H=>Zc H R λa H=>Zj (Zk ?_))))
   exact ⟨_,ois T,H.s,I⟩
  intro N m
  refine s_4 (Zu (Zu (YE ?_)))
  obtain rfl:=L _ (ois m)
  refine Zk ?_
  exact ⟨H.s,I⟩
 rintro a w ⟨H,I⟩
 refine ZA (s_2 (Zb (Zc H R λa H=>Ze ?_)))
 obtain ⟨i,X,Y⟩:=p_1 K
 refine ZV (λa w=>Env 46 a [(2,ptr B 0),(3,ptr C 0)] ∧ M (Old t) t w [raw C (cat [xt,enc b,enc d,enc i,[vI f]]),raw B xj]) ?_ ?_
 ·refine p_2 ?_
  refine ZP (λ(e : V16 × Int) a w=>Env 46 a [(2,ptr B 0),(3,ptr C 0),(6,vI e.2)] ∧ M (Old t) t w [raw C (cat [xt,enc b,enc d,enc e.1,[vI f]]),raw B xj]) X ⟨H.s,I⟩ ?_
  rintro e a w ⟨H,I⟩ an j Z
  unfold Q3 at j
  refine s_2 (Zb (Zd H R λa H=>Zn H R R R λa H=>Ze ?_))
  refine c_if H R j ?_ ?_
  ·intro aa j
   refine u_2 (ZA (s_2 (p_2 (t_1 (Zd H R λa H=>Zd H R λa H=>Zn H R R R λa H=>Zn H R R R λa H=>Zn H R R (Jt _ _ dd_) λa H=>Y5 H Za ld R s_5 u_3 λa H=>Zm H R (jO) λa H=>?_)))))
   obtain ⟨ao,A,j⟩:=bvx j
   refine ZR H R R o_7 ty5 A.1 λa H=>Zl (seg:=[vB (ZC (Int.tmod (wr ((wr (13 * e.2)) + 4)) 16))]) (cs':=cat [xt,enc b,enc d,enc (e.1.setIfInBounds (e.2).toNat (ZC (Int.tmod (wr ((wr (13 * e.2)) + 4)) 16))),[vI f]]) H I Za R R R ty5 R (J8 (o':=0 + (e.2).toNat * 1) (pre:=[xt,enc b,enc d]) (seg:=enc e.1) (post:=[[vI f]]) ck (Yf (v:=e.1) (x:=ZC (Int.tmod (wr ((wr (13 * e.2)) + 4)) 16)) A.1) (by first | omega | (simp only [Flat.n] <;> omega))) (s_1 (ZC (Int.tmod (wr ((wr (13 * e.2)) + 4)) 16) : UInt8)) (Qu (o':=0 + (e.2).toNat * 1) (pre:=[xt,enc b,enc d]) (seg:=enc e.1) (post:=[[vI f]]) ck (Yf (v:=e.1) (x:=ZC (Int.tmod (wr ((wr (13 * e.2)) + 4)) 16)) A.1) (ZS (v:=e.1) (x:=ZC (Int.tmod (wr ((wr (13 * e.2)) + 4)) 16)) A.1) (by first | omega | (simp only [Flat.n] <;> omega))) λw a I H=>Zj (Yy (ZA (t_1 (Zd H R λa H=>Zn H R R R λa H=>Zc H R λa H=>Zj (Zk ?_)))))
   exact ⟨_,ois j,H.s,I⟩
  intro aa j
  refine s_4 (Zu (Zu (YE ?_)))
  obtain rfl:=Z _ (ois j)
  refine Zk ?_
  exact ⟨H.s,I⟩
 rintro a w ⟨H,I⟩
 refine ZA (Zb (Zq H R KU R I.ra0 cq λa H=>?_))
 have I:=I.pl1
 refine Zl (seg:=cat [[vI ((⟨285,b,d,i,f⟩ : GCipher).Field)],enc ((⟨285,b,d,i,f⟩ : GCipher).Box),enc ((⟨285,b,d,i,f⟩ : GCipher).Mix),enc ((⟨285,b,d,i,f⟩ : GCipher).Places),[vI ((⟨285,b,d,i,f⟩ : GCipher).Rounds)]]) (cs':=cat [[vI ((⟨285,b,d,i,f⟩ : GCipher).Field)],enc ((⟨285,b,d,i,f⟩ : GCipher).Box),enc ((⟨285,b,d,i,f⟩ : GCipher).Mix),enc ((⟨285,b,d,i,f⟩ : GCipher).Places),[vI ((⟨285,b,d,i,f⟩ : GCipher).Rounds)]]) H I Za R R R KU cq (q_1 cq cq) (ZD (cc1 (s_1 ((⟨285,b,d,i,f⟩ : GCipher).Field : Int)) (cc1 (s_1 _) (cc1 (s_1 _) (cc1 (s_1 _) (cc1 (s_1 ((⟨285,b,d,i,f⟩ : GCipher).Rounds : Int)) cc0)))))) (q_2 cq cq) λw a I H=>Ze ?_
 obtain rfl:=o_1 Y
 have ab : Z7 prog _ _ (.cell 2 62) _:=ZE H R KU R I.ra0 cq R
 exact p_3 (ZY H R ab ⟨_,R,R,I.kept⟩)
def Wh : Option (GCipher) :=
 (TV 4).bind λb=>some b
theorem QY (c : World)  (r : GCipher) (J : Wh  = some r) :
  Calls prog 243 [].toArray c (Rt c (Value.agg (enc r).toArray)):=by
 refine ce func243 ?_
 intro a H
 have I:=M.start c
 unfold Wh at J
 refine Zb (Zv H I KU λf w a I H=>Ze (Zb ?_))
 obtain ⟨b,e,J⟩:=p_1 J
 refine c_k H I R (cbm func192) (jp _ 4 b e) λw a I H=>?_
 refine Zl (seg:=cat [[vI b.Field],enc b.Box,enc b.Mix,enc b.Places,[vI b.Rounds]]) (cs':=cat [[vI b.Field],enc b.Box,enc b.Mix,enc b.Places,[vI b.Rounds]]) H I Za R R R KU cq (q_1 cq cq) (ZD (cc1 (s_1 (b.Field : Int)) (cc1 (s_1 _) (cc1 (s_1 _) (cc1 (s_1 _) (cc1 (s_1 (b.Rounds : Int)) cc0)))))) (q_2 cq cq) λw a I H=>Ze ?_
 obtain rfl:=o_1 J
 have d : Z7 prog _ _ (.cell 0 62) _:=ZE H R KU R I.ra0 cq R
 exact p_3 (ZY H R d ⟨_,R,R,I.kept⟩)
def XI (b : List UInt8) : Option ((List UInt8)) :=
 (app 1 ([] : List UInt8) b).bind λc=>some (([] : List UInt8) ++ b)
theorem QT (d : World) (e : List UInt8) (b : Value) (c : Ro d e [b]) (r : List UInt8) (J : XI e = some r) :
  Calls prog 96 [b].toArray d (e_r λv w'=>(∃ f : Value,v = f ∧ Fr d w' [osl NoB r f] ∧ Kept (Old d) d w')):=by
 refine ce func96 ?_
 intro a H
 have I:=M.start d
 unfold XI at J
 refine Zb (Zc H R λa H=>Ze (Zb (ZM (xs:=[]) (l:=xv) (vs:=[]) H I Za ld R R o_2 ty5 R dd_ R λk w a I H=>Zd H R λa H=>?_)))
 obtain ⟨m,h,J⟩:=p_1 J
 have i:=(ZU h).1
 refine ZX H I Za ld R R (I.rd c) o_2 ty5 R dd_ i λj w a I H=>Zc H R λa H=>Ze ?_
 obtain rfl:=o_1 J
 exact p_3 (ZY H R (Zy H R) ⟨_,R,j,R,I.outF (ZK Yd),I.kept⟩)
def KZ (b : List UInt8) : Option (Fl (List UInt8) (List UInt8)) :=
 if (Int.tmod (b.length : Int) 16) != 8 then ((app 1 b ([0] : List UInt8)).bind λc=>some (Fl.nx (b ++ ([0] : List UInt8)))) else (some (Fl.ex b))
def Tw (c : List UInt8) (b : List UInt8 × Int) : Option (Fl (List UInt8 × Int) (List UInt8)) :=
 if decide (b.2 ≥ 0) then ((Wy (IntKind.u64.wrap (wr (8 * b.2)))).bind λ_=>(app 1 b.1 ([ZC (JG (Vj (c.length : Int) (IntKind.u64.wrap (wr (8 * b.2)))) 255)] : List UInt8)).bind λd=>some (Fl.nx ((b.1 ++ ([ZC (JG (Vj (c.length : Int) (IntKind.u64.wrap (wr (8 * b.2)))) 255)] : List UInt8)),wr (b.2 - 1)))) else (some (Fl.ex b.1))
def Kq (d : List UInt8) : Option ((List UInt8)) :=
 (XI d).bind λe=>(app 1 e ([128] : List UInt8)).bind λf=>(ZQ (KZ) (e ++ ([128] : List UInt8))).bind λb=>(ZQ (Tw d) (b,7)).bind λc=>some c
theorem qt (e : World) (o : List UInt8) (d : Value) (f : Ro e o [d]) (r : List UInt8) (J : Kq o = some r) :
  Calls prog 258 [d].toArray e (e_r λv w'=>(∃ W : Value,v = W ∧ Fr e w' [osl NoB r W] ∧ Kept (Old e) e w')):=by
 refine ce func258 ?_
 intro a H
 have I:=M.start e
 unfold Kq at J
 refine Zb (Zc H R λa H=>Ze (Zb (Zd H R λa H=>?_)))
 obtain ⟨X,Y,J⟩:=p_1 J
 refine Zp H R cb96 (QT _ o d (I.rdo f) X Y) ?_
 rintro u3 w a ⟨_,rfl,hFr,hK⟩ H
 have I:=I.add hK hFr
 refine ZM (xs:=[.const (vB 128)]) (l:=([128] : List UInt8)) (vs:=[vB 128]) H I Za ld R R o_2 ty5 R dd_ R λu4 w a I H=>?_
 obtain ⟨l6,Z,J⟩:=p_1 J
 obtain ⟨E,rfl⟩:=ZU Z
 have I:=I.pl1
 refine ZX H I Za ld R R (I.sl1) o_2 ty5 R dd_ E λu8 w a I H=>Zc H R λa H=>Ze ?_
 obtain ⟨F,q,t⟩:=p_1 J
 refine ZI (λa w=>∃ i : Value,Env 32 a [(0,d),(3,i)] ∧ M (Old e) e w [osl NoB F i]) ?_ ?_
 ·refine p_2 ?_
  have I:=M.fst (l:=[_]) I
  refine ZP (λ(u : List UInt8) a w=>∃ j : Value,Env 32 a [(0,d),(3,j)] ∧ M (Old e) e w [osl NoB u j]) q ⟨u8,H.s,I⟩ ?_
  rintro u a w ⟨j,H,I⟩ aa c x
  unfold KZ at c
  refine s_2 (Zb (Zd H R λa H=>Yu H R o_2 (I.sl0) λa H=>Zn H R R (Jt _ _ dd_) λa H=>Zn H R R R λa H=>Ze ?_))
  refine c_if H R c ?_ ?_
  ·intro y c
   refine u_2 (ZA (p_2 (t_1 (Zd H R λa H=>ZM (xs:=[.const (vB 0)]) (l:=([0] : List UInt8)) (vs:=[vB 0]) H I Za ld R R o_2 ty5 R dd_ R λab w a I H=>?_))))
   obtain ⟨ac,G,c⟩:=p_1 c
   obtain ⟨K,rfl⟩:=ZU G
   have I:=I.pl1
   refine ZX H I Za ld R R (I.sl1) o_2 ty5 R dd_ K λL w a I H=>Zc H R λa H=>Zj (Yy (Zk ?_))
   have I:=M.fst (l:=[_]) I
   exact ⟨_,ois c,L,H.s,I⟩
  intro y c
  refine s_4 (Zu (Zu (YE ?_)))
  obtain rfl:=x _ (ois c)
  refine Zk ?_
  exact ⟨j,H.s,I⟩
 rintro a w ⟨i,H,I⟩
 refine s_2 (Zb (Zc H R λa H=>Ze ?_))
 obtain ⟨N,z,A⟩:=p_1 t
 refine ZV (λa w=>∃ k : Value,Env 32 a [(3,k)] ∧ M (Old e) e w [osl NoB N k]) ?_ ?_
 ·refine p_2 ?_
  refine ZP (λ(h : List UInt8 × Int) a w=>∃ m : Value,Env 32 a [(0,d),(3,m),(4,vI h.2)] ∧ M (Old e) e w [osl NoB h.1 m]) z ⟨i,H.s,I⟩ ?_
  rintro h a w ⟨m,H,I⟩ ad b B
  unfold Tw at b
  refine s_2 (Zb (Zd H R λa H=>Zn H R R R λa H=>Ze ?_))
  refine c_if H R b ?_ ?_
  ·intro C b
   refine u_2 (ZA (s_2 (p_2 (t_1 (Zd H R λa H=>Zd H R λa H=>Yu H R o_2 (I.rd f) λa H=>Zd H R λa H=>Zn H R R R λa H=>B7 H Za ld R s_5 underlying151 λa H=>?_)))))
   obtain ⟨_,n,b⟩:=p_1 b
   have n:=VT n
   refine A2 H Za ld R R (BD _ _ n) λa H=>Zn H R R R λa H=>Y5 H Za ld R s_5 u_3 λa H=>ZM (xs:=[.tmp 28]) (l:=([ZC (JG (Vj (o.length : Int) (IntKind.u64.wrap (wr (8 * h.2)))) 255)] : List UInt8)) (vs:=[vB (ZC (JG (Vj (o.length : Int) (IntKind.u64.wrap (wr (8 * h.2)))) 255))]) H I Za ld R R o_2 ty5 R dd_ R λae w a I H=>?_
   obtain ⟨af,O,b⟩:=p_1 b
   obtain ⟨T,rfl⟩:=ZU O
   have I:=I.pl1
   refine ZX H I Za ld R R (I.sl1) o_2 ty5 R dd_ T λU w a I H=>Zc H R λa H=>Zj (Yy (ZA (t_1 (Zd H R λa H=>Zn H R R R λa H=>Zc H R λa H=>Zj (Zk ?_)))))
   have I:=M.fst (l:=[_]) I
   exact ⟨_,ois b,U,H.s,I⟩
  intro C b
  refine s_4 (Zu (Zu (YE ?_)))
  obtain rfl:=B _ (ois b)
  refine Zk ?_
  exact ⟨m,H.s,I⟩
 rintro a w ⟨k,H,I⟩
 refine ZA (Zb (Zd H R λa H=>Zc H R λa H=>Ze ?_))
 obtain rfl:=o_1 A
 exact p_3 (ZY H R (Zy H R) ⟨_,R,k,R,I.outF (ZK Yd),I.kept⟩)
def Vx (d : List UInt8) (e : List V16 × Int) (b : V16 × Int) : Option (Fl (V16 × Int) V16) :=
 if decide (b.2 < 16) then ((idx d (wr (e.2 + b.2))).bind λc=>(Z4 b.1 b.2).bind λf=>some (Fl.nx ((b.1.setIfInBounds (b.2).toNat c),wr (b.2 + 1)))) else (some (Fl.ex b.1))
def Vk (d : List UInt8) (b : List V16 × Int) : Option (Fl (List V16 × Int) (List V16)) :=
 if decide ((wr (b.2 + 16)) ≤ (d.length : Int)) then ((ZQ (Vx d b) ((Vector.replicate 16 (0 : UInt8)),0)).bind λc=>(app 16 b.1 ([c] : List V16)).bind λe=>some (Fl.nx ((b.1 ++ ([c] : List V16)),wr (b.2 + 16)))) else (some (Fl.ex b.1))
def Tn (b : List UInt8) : Option ((List V16)) :=
 (ZQ (Vk b) (([] : List V16),0)).bind λc=>some c
theorem yv (h : World) (N : List UInt8) (d : Value) (e : Ro h N [d]) (r : List V16) (J : Tn N = some r) :
  Calls prog 257 [d].toArray h (e_r λv w'=>(∃ O : Value,v = O ∧ Fr h w' [osl NoB r O] ∧ Kept (Old h) h w')):=by
 refine ce func257 ?_
 intro a H
 have I:=M.start h
 unfold Tn at J
 refine Zb (Zc H R λa H=>Ze (Zb (ZM (xs:=[]) (l:=([] : List V16)) (vs:=[]) H I Za ld R R s_3 ZL R dd_ R λT w a I H=>Zc H R λa H=>Ze (s_2 (Zb (Zc H R λa H=>Ze ?_))))))
 obtain ⟨U,E,F⟩:=p_1 J
 refine ZV (λa w=>∃ C : Value,Env 33 a [(3,C)] ∧ M (Old h) h w [osl NoB U C]) ?_ ?_
 ·refine p_2 ?_
  refine ZP (λ(q : List V16 × Int) a w=>∃ n : Value,Env 33 a [(0,d),(3,n),(4,vI q.2)] ∧ M (Old h) h w [osl NoB q.1 n]) E ⟨T,H.s,I⟩ ?_
  rintro q a w ⟨n,H,I⟩ W c u
  unfold Vk at c
  refine s_2 (Zb (Zd H R λa H=>Zn H R R R λa H=>Zd H R λa H=>Yu H R o_2 (I.rd e) λa H=>Zn H R R R λa H=>Ze ?_))
  refine c_if H R c ?_ ?_
  ·intro y c
   refine u_2 (ZA (s_2 (p_2 (Zb (Y6 (parts:=[]) (vs:=[]) (cs:=enc xc) H Za ld R R ZL R ty5 YO λa H=>Zv H I ZL λm w a I H=>Zl (seg:=enc xc) (cs':=enc xc) H I Za R R R ZL (u_1 _) (zle flq) (s_1 _) (Zh flq) λw a I H=>Ze (s_2 (Zb (Zc H R λa H=>Ze ?_))))))))
   obtain ⟨t,z,j⟩:=p_1 c
   refine ZV (λa w=>Env 33 a [(0,d),(3,n),(4,vI q.2),(5,ptr m 0)] ∧ M (Old h) h w [raw m (enc t),osl NoB q.1 n]) ?_ ?_
   ·refine p_2 ?_
    refine ZP (λ(f : V16 × Int) a w=>Env 33 a [(0,d),(3,n),(4,vI q.2),(5,ptr m 0),(6,vI f.2)] ∧ M (Old h) h w [raw m (enc f.1),osl NoB q.1 n]) z ⟨H.s,I⟩ ?_
    rintro f a w ⟨H,I⟩ X b A
    unfold Vx at b
    refine s_2 (Zb (Zd H R λa H=>Zn H R R R λa H=>Ze ?_))
    refine c_if H R b ?_ ?_
    ·intro B b
     refine u_2 (ZA (s_2 (p_2 (t_1 (Zd H R λa H=>Zd H R λa H=>Zd H R λa H=>Zd H R λa H=>Zn H R R R λa H=>?_)))))
     obtain ⟨i,o,b⟩:=bix b
     refine Yp H R R o_2 ty5 (I.rd e) o.1 λa H=>ZB (v:=(vB i)) H R ty5 R (YG (I.rd e) o.2) λa H=>?_
     obtain ⟨Y,k,b⟩:=bvx b
     refine ZR H R R o_4 ty5 k.1 λa H=>Zl (seg:=[vB i]) (cs':=enc (f.1.setIfInBounds (f.2).toNat i)) H I Za R R R ty5 R (Yf (v:=f.1) (x:=i) k.1) (s_1 (i : UInt8)) (ZS (v:=f.1) (x:=i) k.1) λw a I H=>Zj (Yy (ZA (t_1 (Zd H R λa H=>Zn H R R R λa H=>Zc H R λa H=>Zj (Zk ?_)))))
     exact ⟨_,ois b,H.s,I⟩
    intro B b
    refine s_4 (Zu (Zu (YE ?_)))
    obtain rfl:=A _ (ois b)
    refine Zk ?_
    exact ⟨H.s,I⟩
   rintro a w ⟨H,I⟩
   refine ZA (t_1 (Zd H R λa H=>Zq H R ZL R I.ra0 (u_1 _) λa H=>ZM (xs:=[.tmp 29]) (l:=([t] : List V16)) (vs:=[Value.agg (enc t).toArray]) H I Za ld R R s_3 ZL R dd_ R λu32 w a I H=>?_))
   obtain ⟨Z,G,j⟩:=p_1 j
   obtain ⟨K,rfl⟩:=ZU G
   have I:=I.pl2
   refine ZX H I Za ld R R (I.sl1) s_3 ZL R dd_ K λL w a I H=>Zc H R λa H=>Zj (Yy (ZA (t_1 (Zd H R λa H=>Zn H R R R λa H=>Zc H R λa H=>Zj (Zk ?_)))))
   have I:=M.fst (l:=[_]) I
   exact ⟨_,ois j,L,H.s,I⟩
  intro y c
  refine s_4 (Zu (Zu (YE ?_)))
  obtain rfl:=u _ (ois c)
  refine Zk ?_
  exact ⟨n,H.s,I⟩
 rintro a w ⟨C,H,I⟩
 refine ZA (Zb (Zd H R λa H=>Zc H R λa H=>Ze ?_))
 obtain rfl:=o_1 F
 exact p_3 (ZY H R (Zy H R) ⟨_,R,C,R,I.outF (ZK Yd),I.kept⟩)
def V2 (b : V32 × Int) : Option (Fl (V32 × Int) V32) :=
 if decide (b.2 < 32) then ((Z4 b.1 b.2).bind λc=>some (Fl.nx ((b.1.setIfInBounds (b.2).toNat (ZC (Int.tmod (wr (17 * b.2)) 256))),wr (b.2 + 1)))) else (some (Fl.ex b.1))
def T0 : Option (V32) :=
 (ZQ (V2) ((Vector.replicate 32 (0 : UInt8)),0)).bind λb=>some b
theorem jm (e : World)  (r : V32) (J : T0  = some r) :
  Calls prog 259 [].toArray e (Rt e (Value.agg (enc r).toArray)):=by
 refine ce func259 ?_
 intro a H
 have I:=M.start e
 unfold T0 at J
 refine Zb (Zv H I ZW λj w a I H=>Ze (Zb (Y6 (parts:=[]) (vs:=[]) (cs:=enc xb) H Za ld R R ZW R ty5 YO λa H=>Zv H I ZW λk w a I H=>Zl (seg:=enc xb) (cs':=enc xb) H I Za R R R ZW (u_1 _) (zle flq) (s_1 _) (Zh flq) λw a I H=>Ze (s_2 (Zb (Zc H R λa H=>Ze ?_))))))
 obtain ⟨l,m,n⟩:=p_1 J
 refine ZV (λa w=>Env 15 a [(0,ptr j 0),(1,ptr k 0)] ∧ M (Old e) e w [raw k (enc l),raw j xm]) ?_ ?_
 ·refine p_2 ?_
  refine ZP (λ(c : V32 × Int) a w=>Env 15 a [(0,ptr j 0),(1,ptr k 0),(2,vI c.2)] ∧ M (Old e) e w [raw k (enc c.1),raw j xm]) m ⟨H.s,I⟩ ?_
  rintro c a w ⟨H,I⟩ o b f
  unfold V2 at b
  refine s_2 (Zb (Zd H R λa H=>Zn H R R R λa H=>Ze ?_))
  refine c_if H R b ?_ ?_
  ·intro h b
   refine u_2 (ZA (s_2 (p_2 (t_1 (Zd H R λa H=>Zd H R λa H=>Zn H R R R λa H=>Zn H R R (Jt _ _ dd_) λa H=>Y5 H Za ld R s_5 u_3 λa H=>?_)))))
   obtain ⟨q,d,b⟩:=bvx b
   refine ZR H R R t_4 ty5 d.1 λa H=>Zl (seg:=[vB (ZC (Int.tmod (wr (17 * c.2)) 256))]) (cs':=enc (c.1.setIfInBounds (c.2).toNat (ZC (Int.tmod (wr (17 * c.2)) 256)))) H I Za R R R ty5 R (Yf (v:=c.1) (x:=ZC (Int.tmod (wr (17 * c.2)) 256)) d.1) (s_1 (ZC (Int.tmod (wr (17 * c.2)) 256) : UInt8)) (ZS (v:=c.1) (x:=ZC (Int.tmod (wr (17 * c.2)) 256)) d.1) λw a I H=>Zj (Yy (ZA (t_1 (Zd H R λa H=>Zn H R R R λa H=>Zc H R λa H=>Zj (Zk ?_)))))
   exact ⟨_,ois b,H.s,I⟩
  intro h b
  refine s_4 (Zu (Zu (YE ?_)))
  obtain rfl:=f _ (ois b)
  refine Zk ?_
  exact ⟨H.s,I⟩
 rintro a w ⟨H,I⟩
 refine ZA (Zb (Zq H R ZW R I.ra0 (u_1 _) λa H=>?_))
 have I:=I.pl1
 refine Zl (seg:=enc l) (cs':=enc l) H I Za R R R ZW (u_1 _) (zle flq) (s_1 _) (Zh flq) λw a I H=>Ze ?_
 obtain rfl:=o_1 n
 have i : Z7 prog _ _ (.cell 0 32) _:=ZE H R ZW R I.ra0 (u_1 _) R
 exact p_3 (ZY H R i ⟨_,R,R,I.kept⟩)
def Vr (e : V32) (b : V16 × V16 × Int) : Option (Fl (V16 × V16 × Int) (V16 × V16)) :=
 if decide (b.2.2 < 16) then ((Z4 e b.2.2).bind λc=>(Z4 b.2.1 b.2.2).bind λf=>(Z4 e (wr (16 + b.2.2))).bind λd=>(Z4 b.1 b.2.2).bind λh=>some (Fl.nx ((b.1.setIfInBounds (b.2.2).toNat d),b.2.1.setIfInBounds (b.2.2).toNat c,wr (b.2.2 + 1)))) else (some (Fl.ex (b.1,b.2.1)))
def Tu (d : V32) : Option (V16 × V16) :=
 (ZQ (Vr d) ((Vector.replicate 16 (0 : UInt8)),Vector.replicate 16 (0 : UInt8),0)).bind λb=>(some (b.2,b.1) : Option (V16 × V16)).bind λc=>some (c.1,c.2)
theorem yj (n : World) (Z : V32) (r : V16 × V16) (J : Tu Z = some r) :
  Calls prog 310 [Value.agg (enc Z).toArray].toArray n (Rt n (Value.tuple [Value.agg (enc r.1).toArray,Value.agg (enc r.2).toArray].toArray)):=by
 refine ce func310 ?_
 intro a H
 have I:=M.start n
 unfold Tu at J
 refine Zb (Z1 (cs:=enc Z) H I Za ld R R λb1 w a I H=>Zv H I ZL λo w a I H=>Zv H I ZL λA w a I H=>Ze (Zb (Y6 (parts:=[]) (vs:=[]) (cs:=enc xc) H Za ld R R ZL R ty5 YO λa H=>Y6 (parts:=[]) (vs:=[]) (cs:=enc xc) H Za ld R R ZL R ty5 YO λa H=>Zv H I ZL λB w a I H=>Zv H I ZL λC w a I H=>?_)))
 have I:=I.pl1
 refine Zl (seg:=enc xc) (cs':=enc xc) H I Za R R R ZL (u_1 _) (zle flq) (s_1 _) (Zh flq) λw a I H=>?_
 have I:=I.pl1
 refine Zl (seg:=enc xc) (cs':=enc xc) H I Za R R R ZL (u_1 _) (zle flq) (s_1 _) (Zh flq) λw a I H=>Ze (s_2 (Zb (Zc H R λa H=>Ze ?_)))
 obtain ⟨e,G,K⟩:=p_1 J
 refine ZV (λa w=>Env 26 a [(2,ptr o 0),(3,ptr A 0),(4,ptr B 0),(5,ptr C 0)] ∧ M (Old n) n w [raw C (enc e.1),raw B (enc e.2),raw A xl,raw o xl]) ?_ ?_
 ·refine p_2 ?_
  refine ZP (λ(d : V16 × V16 × Int) a w=>Env 26 a [(1,ptr b1 0),(2,ptr o 0),(3,ptr A 0),(4,ptr B 0),(5,ptr C 0),(6,vI d.2.2)] ∧ M (Old n) n w [raw C (enc d.1),raw B (enc d.2.1),raw A xl,raw o xl,raw b1 (enc Z)]) G ⟨H.s,I⟩ ?_
  rintro d a w ⟨H,I⟩ ab b L
  unfold Vr at b
  refine s_2 (Zb (Zd H R λa H=>Zn H R R R λa H=>Ze ?_))
  refine c_if H R b ?_ ?_
  ·intro N b
   refine u_2 (ZA (s_2 (p_2 (Zb (Zd H R λa H=>Zd H R λa H=>?_)))))
   obtain ⟨f,q,b⟩:=bvx b
   refine ZR H R R t_4 ty5 q.1 λa H=>ZB (v:=(vB f)) H R ty5 R (At.vec I.ra4 q.2) λa H=>?_
   obtain ⟨ac,i,b⟩:=bvx b
   refine ZR H R R o_4 ty5 i.1 λa H=>?_
   have I:=I.pl1
   refine Zl (seg:=[vB f]) (cs':=enc (d.2.1.setIfInBounds (d.2.2).toNat f)) H I Za R R R ty5 R (Yf (v:=d.2.1) (x:=f) i.1) (s_1 (f : UInt8)) (ZS (v:=d.2.1) (x:=f) i.1) λw a I H=>Ze (t_1 (Zd H R λa H=>Zd H R λa H=>Zn H R R R λa H=>?_))
   obtain ⟨h,t,b⟩:=bvx b
   refine ZR H R R t_4 ty5 t.1 λa H=>ZB (v:=(vB h)) H R ty5 R (At.vec I.ra4 t.2) λa H=>?_
   obtain ⟨ad,m,b⟩:=bvx b
   refine ZR H R R o_4 ty5 m.1 λa H=>?_
   have I:=I.pl1
   refine Zl (seg:=[vB h]) (cs':=enc (d.1.setIfInBounds (d.2.2).toNat h)) H I Za R R R ty5 R (Yf (v:=d.1) (x:=h) m.1) (s_1 (h : UInt8)) (ZS (v:=d.1) (x:=h) m.1) λw a I H=>Zj (Yy (ZA (t_1 (Zd H R λa H=>Zn H R R R λa H=>Zc H R λa H=>Zj (Zk ?_)))))
   exact ⟨_,ois b,H.s,I⟩
  intro N b
  refine s_4 (Zu (Zu (YE ?_)))
  obtain rfl:=L _ (ois b)
  refine Zk ?_
  have I:=M.fst (l:=[_,_,_,_]) I.pl3.pl3.pl3.pl3
  exact ⟨H.s,I⟩
 rintro a w ⟨H,I⟩
 refine ZA ?_
 obtain ⟨O,T,U⟩:=p_1 K
 refine ZI (λa w=>Env 26 a [(2,ptr o 0),(3,ptr A 0)] ∧ M (Old n) n w [raw A (enc O.2),raw o (enc O.1)]) ?_ ?_
 ·have I:=I.pl3
  refine Ys (its:=[raw C (enc e.1),raw B (enc e.2),raw A xl]) (mk:=([mkT 2 (raw o xl) (raw o (enc e.2))] : Mk)) [24,25,28] Yx R R dd_ R H (λu=>M.qT (M.q0 I.drew u)) (qsP (v:=(Value.agg (enc e.2).toArray)) ?_ (qsP (λz=>Zx z.E Za ld R ZL R (z.M.ra0) (u_1 _) (kr0 R)) (q_t ?_ qs0))) ?_
  ·intro a w y D z
   have H:=z.E
   have hD : D 0 = false:=z.F
   have I:=z.M.togA (pre:=[_,_,_]) (VE (j:=2) (k:=0) z.c R R R hD)
   exact Zq H R ZL R I.ra1 (u_1 _) λa H=>⟨p_5 _ _,_,R,H⟩
  ·intro a w y D z
   have H:=z.E
   have hD : D 2 = false:=z.F
   have I:=(z.M.togA (pre:=[_,_,_]) hD).pl3
   exact Zl (seg:=enc e.2) (cs':=enc e.2) H I Za R R R ZL (u_1 _) (zle flq) (s_1 _) (Zh flq) λw a I H=>⟨undef,_,R,Env.dummy H dd_,M.qTog (mk1:=[]) (mk2:=[]) I R,trivial⟩
  intro a w y D H I hG W
  have d2:=W 2 dd_
  have I:=(I.togB (pre:=[_,_,_]) d2).pl2
  refine Zl (seg:=enc e.1) (cs':=enc e.1) H I Za R R R ZL (u_1 _) (zle flq) (s_1 _) (Zh flq) λw a I H=>Zj ?_
  obtain rfl:=o_1 T
  refine Zk ?_
  have I:=M.fst (l:=[_,_]) I.pl3.pl1
  exact ⟨H.s,I⟩
 rintro a w ⟨H,I⟩
 obtain rfl:=o_1 U
 have X : Z7 prog _ _ (.cell 2 53) _:=ZE H R ZL R I.ra1 (u_1 _) R
 have Y : Z7 prog _ _ (.cell 3 53) _:=ZE H R ZL R I.ra0 (u_1 _) R
 exact p_3 (Yq H R X Y ⟨_,R,R,I.kept⟩)
def Tm (e : V16) (b : V16 × Int) : Option (Fl (V16 × Int) V16) :=
 if decide (b.2 < 16) then ((Z4 b.1 b.2).bind λc=>(Z4 e b.2).bind λd=>(Z4 b.1 b.2).bind λf=>some (Fl.nx ((b.1.setIfInBounds (b.2).toNat (c ^^^ d)),wr (b.2 + 1)))) else (some (Fl.ex b.1))
def Wr (b : V16) (c : V16) : Option (V16) :=
 (ZQ (Tm c) (b,0)).bind λd=>some d
theorem Qb (j : World) (y : V16) (o : V16) (r : V16) (J : Wr y o = some r) :
  Calls prog 210 [Value.agg (enc y).toArray,Value.agg (enc o).toArray].toArray j (Rt j (Value.agg (enc r).toArray)):=by
 refine ce func210 ?_
 intro a H
 have I:=M.start j
 unfold Wr at J
 refine Zb (Z1 (cs:=enc y) H I Za ld R R λq w a I H=>Z1 (cs:=enc o) H I Za ld R R λF w a I H=>Zv H I ZL λt w a I H=>Ze (s_2 (Zb (Zc H R λa H=>Ze ?_))))
 obtain ⟨A,B,C⟩:=p_1 J
 refine ZV (λa w=>Env 20 a [(2,ptr q 0),(4,ptr t 0)] ∧ M (Old j) j w [raw t xl,raw q (enc A)]) ?_ ?_
 ·refine p_2 ?_
  refine ZP (λ(e : V16 × Int) a w=>Env 20 a [(2,ptr q 0),(3,ptr F 0),(4,ptr t 0),(5,vI e.2)] ∧ M (Old j) j w [raw t xl,raw F (enc o),raw q (enc e.1)]) B ⟨H.s,I⟩ ?_
  rintro e a w ⟨H,I⟩ G b k
  unfold Tm at b
  refine s_2 (Zb (Zd H R λa H=>Zn H R R R λa H=>Ze ?_))
  refine c_if H R b ?_ ?_
  ·intro m b
   refine u_2 (ZA (s_2 (p_2 ?_)))
   obtain ⟨c,h,b⟩:=bvx b
   obtain ⟨d,i,b⟩:=bvx b
   obtain ⟨K,f,b⟩:=bvx b
   refine Z9 [10,11,12,13,14,15,16,17,18] Yx R R dd_ R H I (q_m (λ_=>R) (q_m (λ_=>R) (qsP (λz=>Z0 z.E Za ld R R o_4 ty5 h.1 (kr0 R)) (qsP (λz=>Zz (v:=(vB c)) z.E Za ld R ty5 R (At.vec (z.M.ra2) h.2) (kr0 R)) (q_m (λ_=>R) (qsP (λz=>Z0 z.E Za ld R R o_4 ty5 i.1 (kr0 R)) (qsP (λz=>Zz (v:=(vB d)) z.E Za ld R ty5 R (At.vec (z.M.ra1) i.2) (kr0 R)) (qsP (v:=(vB (c ^^^ d))) (λz=>Yc z.E Za ld R R (Uj c d) (kr0 R)) (qsP (λz=>Z0 z.E Za ld R R o_4 ty5 f.1 (kr0 R)) qs0))))))))) ?_
   ·intro a w u H I
    have I:=I.pl2
    refine Zl (seg:=[vB (c ^^^ d)]) (cs':=enc (e.1.setIfInBounds (e.2).toNat (c ^^^ d))) H I Za R R R ty5 R (Yf (v:=e.1) (x:=c ^^^ d) f.1) (s_1 (c ^^^ d : UInt8)) (ZS (v:=e.1) (x:=c ^^^ d) f.1) λw a I H=>Zj (Yy (ZA (t_1 (Zd H R λa H=>Zn H R R R λa H=>Zc H R λa H=>Zj (Zk ?_)))))
    have I:=I.pl2.pl2
    exact ⟨_,ois b,H.s,I⟩
  intro m b
  refine s_4 (Zu (Zu (YE ?_)))
  obtain rfl:=k _ (ois b)
  refine Zk ?_
  have I:=M.fst (l:=[_,_]) I.pl2.pl1
  exact ⟨H.s,I⟩
 rintro a w ⟨H,I⟩
 refine ZA (Zb (Zq H R ZL R I.ra1 (u_1 _) λa H=>Zl (seg:=enc A) (cs':=enc A) H I Za R R R ZL (u_1 _) (zle flq) (s_1 _) (Zh flq) λw a I H=>Ze ?_))
 obtain rfl:=o_1 C
 have n : Z7 prog _ _ (.cell 4 53) _:=ZE H R ZL R I.ra0 (u_1 _) R
 exact p_3 (ZY H R n ⟨_,R,R,I.kept⟩)
def Uz (i : V256) (j : Int) (b : V16 × Int) : Option (Fl (V16 × Int) V16) :=
 if decide (b.2 < 16) then (((Z4 b.1 (Int.tmod (wr (b.2 + 15)) 16)).bind λc=>(if b.2 == 0 then (some (c ^^^ (ZC j))) else (some c) : Option (UInt8)).bind λd=>(Z4 b.1 b.2).bind λe=>(Z4 i (bI d)).bind λf=>(Z4 b.1 b.2).bind λk=>some (b.1.setIfInBounds (b.2).toNat (e ^^^ f)) : Option (V16)).bind λh=>some (Fl.nx (h,wr (b.2 + 1)))) else (some (Fl.ex b.1))
def QD (b : V256) (c : V16) (d : Int) : Option (V16) :=
 (ZQ (Uz b d) (c,0)).bind λe=>some e
theorem kN (i : World) (y : V256) (O : V16) (A : Int) (r : V16) (J : QD y O A = some r) :
  Calls prog 322 [Value.agg (enc y).toArray,Value.agg (enc O).toArray,vI A].toArray i (Rt i (Value.agg (enc r).toArray)):=by
 refine ce func322 ?_
 intro a H
 have I:=M.start i
 unfold QD at J
 refine Zb (Z1 (cs:=enc y) H I Za ld R R λB w a I H=>Z1 (cs:=enc O) H I Za ld R R λm w a I H=>Zv H I ZL λn w a I H=>Ze (s_2 (Zb (Zc H R λa H=>Ze ?_))))
 obtain ⟨T,U,W⟩:=p_1 J
 refine ZV (λa w=>Env 34 a [(4,ptr m 0),(6,ptr n 0)] ∧ M (Old i) i w [raw n xl,raw m (enc T)]) ?_ ?_
 ·refine p_2 ?_
  refine ZP (λ(c : V16 × Int) a w=>Env 34 a [(2,vI A),(3,ptr B 0),(4,ptr m 0),(6,ptr n 0),(7,vI c.2)] ∧ M (Old i) i w [raw n xl,raw m (enc c.1),raw B (enc y)]) U ⟨H.s,I⟩ ?_
  rintro c a w ⟨H,I⟩ Z d C
  unfold Uz at d
  refine s_2 (Zb (Zd H R λa H=>Zn H R R R λa H=>Ze ?_))
  refine c_if H R d ?_ ?_
  ·intro F d
   refine u_2 (ZA ?_)
   obtain ⟨X,j,G⟩:=p_1 d
   refine ZI (λa w=>Env 34 a [(2,vI A),(3,ptr B 0),(4,ptr m 0),(6,ptr n 0),(7,vI c.2)] ∧ M (Old i) i w [raw n xl,raw m (enc X),raw B (enc y)]) ?_ ?_
   ·refine p_2 (Zb (Zd H R λa H=>Zn H R R R λa H=>Zn H R R (Jt _ _ dd_) λa H=>?_))
    obtain ⟨K,o,j⟩:=bvx j
    refine ZR H R R o_4 ty5 o.1 λa H=>ZB (v:=(vB K)) H R ty5 R (At.vec I.ra1 o.2) λa H=>Zc H R λa H=>Ze ?_
    obtain ⟨Y,e,b⟩:=p_1 j
    refine ZI (λa w=>Env 34 a [(2,vI A),(3,ptr B 0),(4,ptr m 0),(6,ptr n 0),(7,vI c.2),(8,vB Y)] ∧ M (Old i) i w [raw n xl,raw m (enc c.1),raw B (enc y)]) ?_ ?_
    ·refine Zb (Zd H R λa H=>Zn H R R R λa H=>Ze ?_)
     refine c_if H R e ?_ ?_
     ·intro L e
      refine t_1 (Zd H R λa H=>Zd H R λa H=>Y5 H Za ld R o_5 u_3 λa H=>Zn H R R (Uj K (ZC A)) λa H=>Zc H R λa H=>Zj ?_)
      obtain rfl:=o_1 e
      refine Zk ?_
      exact ⟨H.s,I⟩
     intro L e
     refine u_2 ?_
     obtain rfl:=o_1 e
     refine Zk ?_
     exact ⟨H.s,I⟩
    rintro a w ⟨H,I⟩
    obtain ⟨f,q,b⟩:=bvx b
    obtain ⟨h,t,b⟩:=bvx b
    obtain ⟨aa,k,b⟩:=bvx b
    refine Z9 [24,25,26,27,28,29,30,31,32] Yx R R dd_ R H I (q_m (λ_=>R) (q_m (λ_=>R) (qsP (λz=>Z0 z.E Za ld R R o_4 ty5 q.1 (kr0 R)) (qsP (λz=>Zz (v:=(vB f)) z.E Za ld R ty5 R (At.vec (z.M.ra1) q.2) (kr0 R)) (q_m (λ_=>R) (qsP (λz=>Z0 z.E Za ld R R p_6 ty5 t.1 (kr0 R)) (qsP (λz=>Zz (v:=(vB h)) z.E Za ld R ty5 R (At.vec (z.M.ra2) t.2) (kr0 R)) (qsP (v:=(vB (f ^^^ h))) (λz=>Yc z.E Za ld R R (Uj f h) (kr0 R)) (qsP (λz=>Z0 z.E Za ld R R o_4 ty5 k.1 (kr0 R)) qs0))))))))) ?_
    ·intro a w u H I
     have I:=I.pl1
     refine Zl (seg:=[vB (f ^^^ h)]) (cs':=enc (c.1.setIfInBounds (c.2).toNat (f ^^^ h))) H I Za R R R ty5 R (Yf (v:=c.1) (x:=f ^^^ h) k.1) (s_1 (f ^^^ h : UInt8)) (ZS (v:=c.1) (x:=f ^^^ h) k.1) λw a I H=>Zj (Yy ?_)
     obtain rfl:=o_1 b
     refine Zk ?_
     have I:=I.pl2.pl1.pl2
     exact ⟨H.s,I⟩
   rintro a w ⟨H,I⟩
   refine t_1 (Zd H R λa H=>Zn H R R R λa H=>Zc H R λa H=>Zj (Zk ?_))
   exact ⟨_,ois G,H.s,I⟩
  intro F d
  refine s_4 (Zu (Zu (YE ?_)))
  obtain rfl:=C _ (ois d)
  refine Zk ?_
  have I:=M.fst (l:=[_,_]) I.pl1.pl1
  exact ⟨H.s,I⟩
 rintro a w ⟨H,I⟩
 refine ZA (Zb (Zq H R ZL R I.ra1 (u_1 _) λa H=>Zl (seg:=enc T) (cs':=enc T) H I Za R R R ZL (u_1 _) (zle flq) (s_1 _) (Zh flq) λw a I H=>Ze ?_))
 obtain rfl:=o_1 W
 have N : Z7 prog _ _ (.cell 6 53) _:=ZE H R ZL R I.ra0 (u_1 _) R
 exact p_3 (ZY H R N ⟨_,R,R,I.kept⟩)
def Uw (d : GCipher) (e : Int) (b : V16 × List V16 × Int) : Option (Fl (V16 × List V16 × Int) (List V16)) :=
 if decide (b.2.2 ≤ e) then ((QD d.Box b.1 b.2.2).bind λc=>(app 16 b.2.1 ([c] : List V16)).bind λf=>some (Fl.nx (c,b.2.1 ++ ([c] : List V16),wr (b.2.2 + 1)))) else (some (Fl.ex b.2.1))
def Qz (c : GCipher) (b : V16) (d : Int) : Option ((List V16)) :=
 (ZQ (Uw c d) (b,([b] : List V16),1)).bind λe=>some e
theorem qd (f : World) (c : GCipher) (j : V16) (n : Int) (r : List V16) (J : Qz c j n = some r) :
  Calls prog 280 [Value.agg (enc c).toArray,Value.agg (enc j).toArray,vI n].toArray f (e_r λv w'=>(∃ z : Value,v = z ∧ Fr f w' [osl NoB r z] ∧ Kept (Old f) f w')):=by
 refine ce func280 ?_
 intro a H
 have I:=M.start f
 unfold Qz at J
 refine Zb (Z1 (cs:=cat [[vI c.Field],enc c.Box,enc c.Mix,enc c.Places,[vI c.Rounds]]) H I Za ld R R λA w a I H=>Z1 (cs:=enc j) H I Za ld R R λB w a I H=>Zc H R λa H=>Ze (Zb (Zq H R ZL R I.ra0 (u_1 _) λa H=>ZM (xs:=[.tmp 9]) (l:=([j] : List V16)) (vs:=[Value.agg (enc j).toArray]) H I Za ld R R s_3 ZL R dd_ R λC w a I H=>Zc H R λa H=>Ze (s_2 (Zb (Zc H R λa H=>Ze ?_))))))
 obtain ⟨E,o,q⟩:=p_1 J
 refine ZV (λa w=>∃ h : Value,Env 26 a [(7,h)] ∧ M (Old f) f w [osl NoB E h]) ?_ ?_
 ·refine p_2 ?_
  have I:=I.pl2.pl2
  refine ZP (λ(d : V16 × List V16 × Int) a w=>∃ i : Value,Env 26 a [(2,vI n),(3,ptr A 0),(4,ptr B 0),(7,i),(8,vI d.2.2)] ∧ M (Old f) f w [raw B (enc d.1),raw A (cat [[vI c.Field],enc c.Box,enc c.Mix,enc c.Places,[vI c.Rounds]]),osl NoB d.2.1 i]) o ⟨C,H.s,I⟩ ?_
  rintro d a w ⟨i,H,I⟩ F b k
  unfold Uw at b
  refine s_2 (Zb (Zd H R λa H=>Zd H R λa H=>Zn H R R R λa H=>Ze ?_))
  refine c_if H R b ?_ ?_
  ·intro m b
   refine u_2 (ZA (s_2 (p_2 (Zb (Zm H R (yk) λa H=>Zq H R Qe R (at_1 I.ra1) (u_1 _) λa H=>Zq H R ZL R I.ra0 (u_1 _) λa H=>Zd H R λa H=>?_)))))
   obtain ⟨e,t,b⟩:=p_1 b
   refine c_k H I R (cbm func322) (kN _ c.Box d.1 d.2.2 e t) λw a I H=>?_
   refine Zl (seg:=enc e) (cs':=enc e) H I Za R R R ZL (u_1 _) (zle flq) (s_1 _) (Zh flq) λw a I H=>Ze (t_1 (Zd H R λa H=>Zq H R ZL R I.ra0 (u_1 _) λa H=>ZM (xs:=[.tmp 22]) (l:=([e] : List V16)) (vs:=[Value.agg (enc e).toArray]) H I Za ld R R s_3 ZL R dd_ R λG w a I H=>?_))
   obtain ⟨K,u,b⟩:=p_1 b
   obtain ⟨x,rfl⟩:=ZU u
   have I:=I.pl3
   refine ZX H I Za ld R R (I.sl1) s_3 ZL R dd_ x λy w a I H=>Zc H R λa H=>Zj (Yy (ZA (t_1 (Zd H R λa H=>Zn H R R R λa H=>Zc H R λa H=>Zj (Zk ?_)))))
   have I:=M.fst (l:=[_,_,_]) I.pl3.pl3
   exact ⟨_,ois b,y,H.s,I⟩
  intro m b
  refine s_4 (Zu (Zu (YE ?_)))
  obtain rfl:=k _ (ois b)
  refine Zk ?_
  have I:=M.fst (l:=[_]) I.pl2
  exact ⟨i,H.s,I⟩
 rintro a w ⟨h,H,I⟩
 refine ZA (Zb (Zd H R λa H=>Zc H R λa H=>Ze ?_))
 obtain rfl:=o_1 q
 exact p_3 (ZY H R (Zy H R) ⟨_,R,h,R,I.outF (ZK Yd),I.kept⟩)
def VV (e : V256) (b : V16 × Int) : Option (Fl (V16 × Int) V16) :=
 if decide (b.2 < 16) then ((Z4 b.1 b.2).bind λc=>(Z4 e (bI c)).bind λd=>(Z4 b.1 b.2).bind λf=>some (Fl.nx ((b.1.setIfInBounds (b.2).toNat d),wr (b.2 + 1)))) else (some (Fl.ex b.1))
def TO (b : V256) (c : V16) : Option (V16) :=
 (ZQ (VV b) (c,0)).bind λd=>some d
theorem y9 (i : World) (n : V256) (t : V16) (r : V16) (J : TO n t = some r) :
  Calls prog 282 [Value.agg (enc n).toArray,Value.agg (enc t).toArray].toArray i (Rt i (Value.agg (enc r).toArray)):=by
 refine ce func282 ?_
 intro a H
 have I:=M.start i
 unfold TO at J
 refine Zb (Z1 (cs:=enc n) H I Za ld R R λB w a I H=>Z1 (cs:=enc t) H I Za ld R R λo w a I H=>Zv H I ZL λq w a I H=>Ze (s_2 (Zb (Zc H R λa H=>Ze ?_))))
 obtain ⟨u,y,z⟩:=p_1 J
 refine ZV (λa w=>Env 18 a [(3,ptr o 0),(4,ptr q 0)] ∧ M (Old i) i w [raw q xl,raw o (enc u)]) ?_ ?_
 ·refine p_2 ?_
  refine ZP (λ(c : V16 × Int) a w=>Env 18 a [(2,ptr B 0),(3,ptr o 0),(4,ptr q 0),(5,vI c.2)] ∧ M (Old i) i w [raw q xl,raw o (enc c.1),raw B (enc n)]) y ⟨H.s,I⟩ ?_
  rintro c a w ⟨H,I⟩ C b j
  unfold VV at b
  refine s_2 (Zb (Zd H R λa H=>Zn H R R R λa H=>Ze ?_))
  refine c_if H R b ?_ ?_
  ·intro k b
   refine u_2 (ZA (s_2 (p_2 (t_1 (Zd H R λa H=>Zd H R λa H=>?_)))))
   obtain ⟨A,f,b⟩:=bvx b
   refine ZR H R R o_4 ty5 f.1 λa H=>ZB (v:=(vB A)) H R ty5 R (At.vec I.ra1 f.2) λa H=>?_
   obtain ⟨d,h,b⟩:=bvx b
   refine ZR H R R p_6 ty5 h.1 λa H=>ZB (v:=(vB d)) H R ty5 R (At.vec I.ra2 h.2) λa H=>?_
   obtain ⟨E,e,b⟩:=bvx b
   refine ZR H R R o_4 ty5 e.1 λa H=>?_
   have I:=I.pl1
   refine Zl (seg:=[vB d]) (cs':=enc (c.1.setIfInBounds (c.2).toNat d)) H I Za R R R ty5 R (Yf (v:=c.1) (x:=d) e.1) (s_1 (d : UInt8)) (ZS (v:=c.1) (x:=d) e.1) λw a I H=>Zj (Yy (ZA (t_1 (Zd H R λa H=>Zn H R R R λa H=>Zc H R λa H=>Zj (Zk ?_)))))
   have I:=I.pl2.pl1.pl2
   exact ⟨_,ois b,H.s,I⟩
  intro k b
  refine s_4 (Zu (Zu (YE ?_)))
  obtain rfl:=j _ (ois b)
  refine Zk ?_
  have I:=M.fst (l:=[_,_]) I.pl1.pl1
  exact ⟨H.s,I⟩
 rintro a w ⟨H,I⟩
 refine ZA (Zb (Zq H R ZL R I.ra1 (u_1 _) λa H=>Zl (seg:=enc u) (cs':=enc u) H I Za R R R ZL (u_1 _) (zle flq) (s_1 _) (Zh flq) λw a I H=>Ze ?_))
 obtain rfl:=o_1 z
 have m : Z7 prog _ _ (.cell 4 53) _:=ZE H R ZL R I.ra0 (u_1 _) R
 exact p_3 (ZY H R m ⟨_,R,R,I.kept⟩)
def Uv (e : V16) (f : V16) (b : V16 × Int) : Option (Fl (V16 × Int) V16) :=
 if decide (b.2 < 16) then ((Z4 e b.2).bind λc=>(Z4 f (bI c)).bind λd=>(Z4 b.1 b.2).bind λh=>some (Fl.nx ((b.1.setIfInBounds (b.2).toNat d),wr (b.2 + 1)))) else (some (Fl.ex b.1))
def QF (b : V16) (c : V16) : Option (V16) :=
 (ZQ (Uv b c) ((Vector.replicate 16 (0 : UInt8)),0)).bind λd=>some d
theorem kp (i : World) (q : V16) (t : V16) (r : V16) (J : QF q t = some r) :
  Calls prog 281 [Value.agg (enc q).toArray,Value.agg (enc t).toArray].toArray i (Rt i (Value.agg (enc r).toArray)):=by
 refine ce func281 ?_
 intro a H
 have I:=M.start i
 unfold QF at J
 refine Zb (Z1 (cs:=enc q) H I Za ld R R λB w a I H=>Z1 (cs:=enc t) H I Za ld R R λC w a I H=>Zv H I ZL λu w a I H=>Ze (Zb (Y6 (parts:=[]) (vs:=[]) (cs:=enc xc) H Za ld R R ZL R ty5 YO λa H=>Zv H I ZL λy w a I H=>Zl (seg:=enc xc) (cs':=enc xc) H I Za R R R ZL (u_1 _) (zle flq) (s_1 _) (Zh flq) λw a I H=>Ze (s_2 (Zb (Zc H R λa H=>Ze ?_))))))
 obtain ⟨z,j,k⟩:=p_1 J
 refine ZV (λa w=>Env 20 a [(4,ptr u 0),(5,ptr y 0)] ∧ M (Old i) i w [raw y (enc z),raw u xl]) ?_ ?_
 ·refine p_2 ?_
  refine ZP (λ(c : V16 × Int) a w=>Env 20 a [(2,ptr B 0),(3,ptr C 0),(4,ptr u 0),(5,ptr y 0),(6,vI c.2)] ∧ M (Old i) i w [raw y (enc c.1),raw u xl,raw C (enc t),raw B (enc q)]) j ⟨H.s,I⟩ ?_
  rintro c a w ⟨H,I⟩ E b m
  unfold Uv at b
  refine s_2 (Zb (Zd H R λa H=>Zn H R R R λa H=>Ze ?_))
  refine c_if H R b ?_ ?_
  ·intro n b
   refine u_2 (ZA (s_2 (p_2 (t_1 (Zd H R λa H=>Zd H R λa H=>?_)))))
   obtain ⟨A,f,b⟩:=bvx b
   refine ZR H R R o_7 ty5 f.1 λa H=>ZB (v:=(vB A)) H R ty5 R (At.vec I.ra3 f.2) λa H=>?_
   obtain ⟨d,h,b⟩:=bvx b
   refine ZR H R R o_4 ty5 h.1 λa H=>ZB (v:=(vB d)) H R ty5 R (At.vec I.ra2 h.2) λa H=>?_
   obtain ⟨F,e,b⟩:=bvx b
   refine ZR H R R o_4 ty5 e.1 λa H=>Zl (seg:=[vB d]) (cs':=enc (c.1.setIfInBounds (c.2).toNat d)) H I Za R R R ty5 R (Yf (v:=c.1) (x:=d) e.1) (s_1 (d : UInt8)) (ZS (v:=c.1) (x:=d) e.1) λw a I H=>Zj (Yy (ZA (t_1 (Zd H R λa H=>Zn H R R R λa H=>Zc H R λa H=>Zj (Zk ?_)))))
   exact ⟨_,ois b,H.s,I⟩
  intro n b
  refine s_4 (Zu (Zu (YE ?_)))
  obtain rfl:=m _ (ois b)
  refine Zk ?_
  have I:=M.fst (l:=[_,_]) I.pl1.pl1
  exact ⟨H.s,I⟩
 rintro a w ⟨H,I⟩
 refine ZA (Zb (Zq H R ZL R I.ra0 (u_1 _) λa H=>?_))
 have I:=I.pl1
 refine Zl (seg:=enc z) (cs':=enc z) H I Za R R R ZL (u_1 _) (zle flq) (s_1 _) (Zh flq) λw a I H=>Ze ?_
 obtain rfl:=o_1 k
 have o : Z7 prog _ _ (.cell 4 53) _:=ZE H R ZL R I.ra0 (u_1 _) R
 exact p_3 (ZY H R o ⟨_,R,R,I.kept⟩)
def W9 (k : Int) (l : (Vector (Vector UInt8 4) 4)) (m : V16) (c : V16 × Int) (d : V16 × Int) (b : V16 × Int) : Option (Fl (V16 × Int) V16) :=
 if decide (b.2 < 4) then ((Z4 b.1 (wr ((wr (4 * c.2)) + d.2))).bind λe=>(Z4 l d.2).bind λf=>(Z4 f b.2).bind λh=>(Z4 m (wr ((wr (4 * c.2)) + b.2))).bind λi=>(XQ k h i).bind λj=>(Z4 b.1 (wr ((wr (4 * c.2)) + d.2))).bind λn=>some (Fl.nx ((b.1.setIfInBounds ((wr ((wr (4 * c.2)) + d.2))).toNat (e ^^^ j)),wr (b.2 + 1)))) else (some (Fl.ex b.1))
def Tx (e : Int) (f : (Vector (Vector UInt8 4) 4)) (h : V16) (c : V16 × Int) (b : V16 × Int) : Option (Fl (V16 × Int) V16) :=
 if decide (b.2 < 4) then ((ZQ (W9 e f h c b) (b.1,0)).bind λd=>some (Fl.nx (d,wr (b.2 + 1)))) else (some (Fl.ex b.1))
def Ts (d : Int) (e : (Vector (Vector UInt8 4) 4)) (f : V16) (b : V16 × Int) : Option (Fl (V16 × Int) V16) :=
 if decide (b.2 < 4) then ((ZQ (Tx d e f b) (b.1,0)).bind λc=>some (Fl.nx (c,wr (b.2 + 1)))) else (some (Fl.ex b.1))
def Kr (b : Int) (c : (Vector (Vector UInt8 4) 4)) (d : V16) : Option (V16) :=
 (ZQ (Ts b c d) ((Vector.replicate 16 (0 : UInt8)),0)).bind λe=>some e
theorem qs (j : World) (y : Int) (A : xk) (B : V16) (r : V16) (J : Kr y A B = some r) :
  Calls prog 283 [vI y,Value.agg (enc A).toArray,Value.agg (enc B).toArray].toArray j (Rt j (Value.agg (enc r).toArray)):=by
 refine ce func283 ?_
 intro a H
 have I:=M.start j
 unfold Kr at J
 refine Zb (Z1 (cs:=enc A) H I Za ld R R λq w a I H=>Z1 (cs:=enc B) H I Za ld R R λt w a I H=>Zv H I ZL λm w a I H=>Ze (Zb (Y6 (parts:=[]) (vs:=[]) (cs:=enc xc) H Za ld R R ZL R ty5 YO λa H=>Zv H I ZL λn w a I H=>Zl (seg:=enc xc) (cs':=enc xc) H I Za R R R ZL (u_1 _) (zle flq) (s_1 _) (Zh flq) λw a I H=>Ze (s_2 (Zb (Zc H R λa H=>Ze ?_))))))
 obtain ⟨j9,L,N⟩:=p_1 J
 refine ZV (λa w=>Env 50 a [(6,ptr m 0),(7,ptr n 0)] ∧ M (Old j) j w [raw n (enc j9),raw m xl]) ?_ ?_
 ·refine p_2 ?_
  refine ZP (λ(c : V16 × Int) a w=>Env 50 a [(0,vI y),(4,ptr q 0),(5,ptr t 0),(6,ptr m 0),(7,ptr n 0),(8,vI c.2)] ∧ M (Old j) j w [raw n (enc c.1),raw m xl,raw t (enc B),raw q (enc A)]) L ⟨H.s,I⟩ ?_
  rintro c a w ⟨H,I⟩ ak d O
  unfold Ts at d
  refine s_2 (Zb (Zd H R λa H=>Zn H R R R λa H=>Ze ?_))
  refine c_if H R d ?_ ?_
  ·intro T d
   refine u_2 (ZA (s_2 (p_2 (Zb (Zc H R λa H=>Ze ?_)))))
   obtain ⟨ah,U,W⟩:=p_1 d
   refine ZV (λa w=>Env 50 a [(0,vI y),(4,ptr q 0),(5,ptr t 0),(6,ptr m 0),(7,ptr n 0),(8,vI c.2)] ∧ M (Old j) j w [raw n (enc ah),raw m xl,raw t (enc B),raw q (enc A)]) ?_ ?_
   ·refine p_2 ?_
    refine ZP (λ(f : V16 × Int) a w=>Env 50 a [(0,vI y),(4,ptr q 0),(5,ptr t 0),(6,ptr m 0),(7,ptr n 0),(8,vI c.2),(9,vI f.2)] ∧ M (Old j) j w [raw n (enc f.1),raw m xl,raw t (enc B),raw q (enc A)]) U ⟨H.s,I⟩ ?_
    rintro f a w ⟨H,I⟩ al e X
    unfold Tx at e
    refine s_2 (Zb (Zd H R λa H=>Zn H R R R λa H=>Ze ?_))
    refine c_if H R e ?_ ?_
    ·intro Y e
     refine u_2 (ZA (s_2 (p_2 (Zb (Zc H R λa H=>Ze ?_)))))
     obtain ⟨ai,Z,aa⟩:=p_1 e
     refine ZV (λa w=>Env 50 a [(0,vI y),(4,ptr q 0),(5,ptr t 0),(6,ptr m 0),(7,ptr n 0),(8,vI c.2),(9,vI f.2)] ∧ M (Old j) j w [raw n (enc ai),raw m xl,raw t (enc B),raw q (enc A)]) ?_ ?_
     ·refine p_2 ?_
      refine ZP (λ(k : V16 × Int) a w=>Env 50 a [(0,vI y),(4,ptr q 0),(5,ptr t 0),(6,ptr m 0),(7,ptr n 0),(8,vI c.2),(9,vI f.2),(10,vI k.2)] ∧ M (Old j) j w [raw n (enc k.1),raw m xl,raw t (enc B),raw q (enc A)]) Z ⟨H.s,I⟩ ?_
      rintro k a w ⟨H,I⟩ am b ab
      unfold W9 at b
      refine s_2 (Zb (Zd H R λa H=>Zn H R R R λa H=>Ze ?_))
      refine c_if H R b ?_ ?_
      ·intro ac b
       refine u_2 (ZA (s_2 (p_2 ?_)))
       obtain ⟨h,C,b⟩:=bvx b
       obtain ⟨an,F,b⟩:=bvx b
       obtain ⟨ad,G,b⟩:=bvx b
       obtain ⟨ae,K,b⟩:=bvx b
       obtain ⟨i,aj,b⟩:=p_1 b
       obtain ⟨ao,o,b⟩:=bvx b
       refine Z9 [24,25,26,27,28,29,30,31,32,33,34,35,36,37,38,39,40,41,42,43,44,45,46,47,48] Yx R R dd_ R H I (q_m (λ_=>R) (qsP (v:=(vI (wr (4 * c.2)))) (λz=>Yc z.E Za ld R R R (kr0 R)) (q_m (λ_=>R) (qsP (v:=(vI (wr ((wr (4 * c.2)) + f.2)))) (λz=>Yc z.E Za ld R R R (kr0 R)) (q_m (λ_=>R) (qsP (v:=(vI (wr (4 * c.2)))) (λz=>Yc z.E Za ld R R R (kr0 R)) (q_m (λ_=>R) (qsP (v:=(vI (wr ((wr (4 * c.2)) + f.2)))) (λz=>Yc z.E Za ld R R R (kr0 R)) (qsP (λz=>Z0 z.E Za ld R R o_4 ty5 C.1 (kr0 R)) (qsP (λz=>Zz (v:=(vB h)) z.E Za ld R ty5 R (At.vec (z.M.ra0) C.2) (kr0 R)) (q_m (λ_=>R) (q_m (λ_=>R) (q_m (λ_=>R) (qsP (λz=>Z0 z.E Za ld R R u_4 TQ F.1 (kr0 R)) (qsP (λz=>Z0 z.E Za ld R R t_5 ty5 G.1 (kr0 R)) (qsP (λz=>Zz (v:=(vB ad)) z.E Za ld R ty5 R (At.vec (At.vec (z.M.ra3) F.2) G.2) (kr0 R)) (q_m (λ_=>R) (qsP (v:=(vI (wr (4 * c.2)))) (λz=>Yc z.E Za ld R R R (kr0 R)) (q_m (λ_=>R) (qsP (v:=(vI (wr ((wr (4 * c.2)) + k.2)))) (λz=>Yc z.E Za ld R R R (kr0 R)) (qsP (λz=>Z0 z.E Za ld R R o_4 ty5 K.1 (kr0 R)) (qsP (λz=>Zz (v:=(vB ae)) z.E Za ld R ty5 R (At.vec (z.M.ra2) K.2) (kr0 R)) (qsP (λz=>Z8 z.E Za ld R Zb7 (T5 _ y ad ae i aj) (kc R)) (qsP (v:=(vB (h ^^^ i))) (λz=>Yc z.E Za ld R R (Uj h i) (kr0 R)) (qsP (λz=>Z0 z.E Za ld R R o_4 ty5 o.1 (kr0 R)) qs0))))))))))))))))))))))))) ?_
       ·intro a w u H I
        refine Zl (seg:=[vB (h ^^^ i)]) (cs':=enc (k.1.setIfInBounds ((wr ((wr (4 * c.2)) + f.2))).toNat (h ^^^ i))) H I Za R R R ty5 R (Yf (v:=k.1) (x:=h ^^^ i) o.1) (s_1 (h ^^^ i : UInt8)) (ZS (v:=k.1) (x:=h ^^^ i) o.1) λw a I H=>Zj (Yy (ZA (t_1 (Zd H R λa H=>Zn H R R R λa H=>Zc H R λa H=>Zj (Zk ?_)))))
        exact ⟨_,ois b,H.s,I⟩
      intro ac b
      refine s_4 (Zu (Zu (YE ?_)))
      obtain rfl:=ab _ (ois b)
      refine Zk ?_
      exact ⟨H.s,I⟩
     rintro a w ⟨H,I⟩
     refine Yy (ZA (t_1 (Zd H R λa H=>Zn H R R R λa H=>Zc H R λa H=>Zj (Zk ?_))))
     exact ⟨_,ois aa,H.s,I⟩
    intro Y e
    refine s_4 (Zu (Zu (YE ?_)))
    obtain rfl:=X _ (ois e)
    refine Zk ?_
    exact ⟨H.s,I⟩
   rintro a w ⟨H,I⟩
   refine Yy (ZA (t_1 (Zd H R λa H=>Zn H R R R λa H=>Zc H R λa H=>Zj (Zk ?_))))
   exact ⟨_,ois W,H.s,I⟩
  intro T d
  refine s_4 (Zu (Zu (YE ?_)))
  obtain rfl:=O _ (ois d)
  refine Zk ?_
  have I:=M.fst (l:=[_,_]) I.pl1.pl1
  exact ⟨H.s,I⟩
 rintro a w ⟨H,I⟩
 refine ZA (Zb (Zq H R ZL R I.ra0 (u_1 _) λa H=>?_))
 have I:=I.pl1
 refine Zl (seg:=enc j9) (cs':=enc j9) H I Za R R R ZL (u_1 _) (zle flq) (s_1 _) (Zh flq) λw a I H=>Ze ?_
 obtain rfl:=o_1 N
 have af : Z7 prog _ _ (.cell 6 53) _:=ZE H R ZL R I.ra0 (u_1 _) R
 exact p_3 (ZY H R af ⟨_,R,R,I.kept⟩)
def WJ (d : GCipher) (m : Int) (n : List V16) (b : V16 × Int) : Option (Fl (V16 × Int) V16) :=
 if decide (b.2 ≤ m) then ((((TO d.Box b.1).bind λe=>(QF d.Places e).bind λf=>some f : Option (V16)).bind λc=>(if decide (b.2 < m) then ((Kr d.Field d.Mix c).bind λh=>some h) else (some c) : Option (V16)).bind λi=>(idx n b.2).bind λj=>(Wr i j).bind λk=>some k : Option (V16)).bind λl=>some (Fl.nx (l,wr (b.2 + 1)))) else (some (Fl.ex b.1))
def Wb (f : GCipher) (j : V16) (k : V16) (h : Int) : Option (V16) :=
 (Qz f j h).bind λi=>((idx i (0 : Int)).bind λb=>(Wr k b).bind λc=>some c : Option (V16)).bind λd=>(ZQ (WJ f h i) (d,1)).bind λe=>some e
theorem J5 (j : World) (b : GCipher) (p1 : V16) (p2 : V16) (q : Int) (r : V16) (J : Wb b p1 p2 q = some r) :
  Calls prog 209 [Value.agg (enc b).toArray,Value.agg (enc p1).toArray,Value.agg (enc p2).toArray,vI q].toArray j (Rt j (Value.agg (enc r).toArray)):=by
 refine ce func209 ?_
 intro a H
 have I:=M.start j
 unfold Wb at J
 refine Zb (Z1 (cs:=cat [[vI b.Field],enc b.Box,enc b.Mix,enc b.Places,[vI b.Rounds]]) H I Za ld R R λo w a I H=>Z1 (cs:=enc p1) H I Za ld R R λb3 w a I H=>Z1 (cs:=enc p2) H I Za ld R R λm w a I H=>Zv H I ZL λn w a I H=>Ze (Zb (Zq H R KU R I.ra3 cq λa H=>Zq H R ZL R I.ra2 (u_1 _) λa H=>Zd H R λa H=>?_)))
 obtain ⟨G,af,J⟩:=p_1 J
 refine Zp H R (cbm func280) (qd _ b p1 q G af) ?_
 rintro d w a ⟨_,rfl,hFr,hK⟩ H
 have I:=I.add hK hFr
 refine Zc H R λa H=>Ze ?_
 obtain ⟨ag,f,K⟩:=p_1 J
 refine ZI (λa w=>Env 48 a [(3,vI q),(4,ptr o 0),(6,ptr m 0),(8,ptr n 0),(9,d)] ∧ M (Old j) j w [osl NoB G d,raw n xl,raw m (enc ag),raw o (cat [[vI b.Field],enc b.Box,enc b.Mix,enc b.Places,[vI b.Rounds]])]) ?_ ?_
 ·obtain ⟨ah,t,f⟩:=bix f
  obtain ⟨y,ai,f⟩:=p_1 f
  refine Z9 [15,16,17,18,19] Yx R R dd_ R H I (qsP (λz=>Zx z.E Za ld R ZL R (z.M.ra2) (u_1 _) (kr0 R)) (q_m (λ_=>R) (qsP (λz=>Z6 z.E Za ld R R s_3 ZL (z.M.sl0) t.1 (kr0 R)) (qsP (λz=>Zx z.E Za ld R ZL R (YG (z.M.sl0) t.2) (u_1 _) (kr0 R)) (qsP (λz=>Z8 z.E Za ld R Zau (Qb _ p2 ah y ai) (kc R)) qs0))))) ?_
  ·intro a w u H I
   have I:=I.pl2
   refine Zl (seg:=enc y) (cs':=enc y) H I Za R R R ZL (u_1 _) (zle flq) (s_1 _) (Zh flq) λw a I H=>Zj ?_
   obtain rfl:=o_1 f
   refine Zk ?_
   have I:=M.fst (l:=[_,_,_,_]) I.pl4.pl1.pl3.pl3
   exact ⟨H.s,I⟩
 rintro a w ⟨H,I⟩
 refine s_2 (Zb (Zc H R λa H=>Ze ?_))
 obtain ⟨A,L,N⟩:=p_1 K
 refine ZV (λa w=>Env 48 a [(6,ptr m 0),(8,ptr n 0)] ∧ M (Old j) j w [raw n xl,raw m (enc A)]) ?_ ?_
 ·refine p_2 ?_
  refine ZP (λ(k : V16 × Int) a w=>Env 48 a [(3,vI q),(4,ptr o 0),(6,ptr m 0),(8,ptr n 0),(9,d),(10,vI k.2)] ∧ M (Old j) j w [osl NoB G d,raw n xl,raw m (enc k.1),raw o (cat [[vI b.Field],enc b.Box,enc b.Mix,enc b.Places,[vI b.Rounds]])]) L ⟨H.s,I⟩ ?_
  rintro k a w ⟨H,I⟩ ap e O
  unfold WJ at e
  refine s_2 (Zb (Zd H R λa H=>Zd H R λa H=>Zn H R R R λa H=>Ze ?_))
  refine c_if H R e ?_ ?_
  ·intro T e
   refine u_2 (ZA ?_)
   obtain ⟨aj,U,W⟩:=p_1 e
   refine ZI (λa w=>Env 48 a [(3,vI q),(4,ptr o 0),(6,ptr m 0),(8,ptr n 0),(9,d),(10,vI k.2)] ∧ M (Old j) j w [osl NoB G d,raw n xl,raw m (enc aj),raw o (cat [[vI b.Field],enc b.Box,enc b.Mix,enc b.Places,[vI b.Rounds]])]) ?_ ?_
   ·refine p_2 ?_
    obtain ⟨X,h,Y⟩:=p_1 U
    refine ZI (λa w=>Env 48 a [(3,vI q),(4,ptr o 0),(6,ptr m 0),(8,ptr n 0),(9,d),(10,vI k.2)] ∧ M (Old j) j w [osl NoB G d,raw n xl,raw m (enc X),raw o (cat [[vI b.Field],enc b.Box,enc b.Mix,enc b.Places,[vI b.Rounds]])]) ?_ ?_
    ·obtain ⟨Z,ak,h⟩:=p_1 h
     obtain ⟨B,al,h⟩:=p_1 h
     refine Z9 [25,26,27,28,29,30,31] Yx R R dd_ R H I (qsP (λz=>Zi z.E Za ld R (jO) (kr0 R)) (qsP (λz=>Zx z.E Za ld R Ap R (at_3 (z.M.ra3)) (u_1 _) (kr0 R)) (qsP (λz=>Zi z.E Za ld R (yk) (kr0 R)) (qsP (λz=>Zx z.E Za ld R Qe R (at_1 (z.M.ra3)) (u_1 _) (kr0 R)) (qsP (λz=>Zx z.E Za ld R ZL R (z.M.ra2) (u_1 _) (kr0 R)) (qsP (λz=>Z8 z.E Za ld R (cbm func282) (y9 _ b.Box k.1 Z ak) (kc R)) (qsP (λz=>Z8 z.E Za ld R (cbm func281) (kp _ b.Places Z B al) (kc R)) qs0))))))) ?_
     ·intro a w u H I
      have I:=I.pl2
      refine Zl (seg:=enc B) (cs':=enc B) H I Za R R R ZL (u_1 _) (zle flq) (s_1 _) (Zh flq) λw a I H=>Zj ?_
      obtain rfl:=o_1 h
      refine Zk ?_
      have I:=I.pl3.pl1.pl3.pl3
      exact ⟨H.s,I⟩
    rintro a w ⟨H,I⟩
    obtain ⟨aa,c,i⟩:=p_1 Y
    refine ZI (λa w=>Env 48 a [(3,vI q),(4,ptr o 0),(6,ptr m 0),(8,ptr n 0),(9,d),(10,vI k.2)] ∧ M (Old j) j w [osl NoB G d,raw n xl,raw m (enc aa),raw o (cat [[vI b.Field],enc b.Box,enc b.Mix,enc b.Places,[vI b.Rounds]])]) ?_ ?_
    ·refine Zb (Zd H R λa H=>Zd H R λa H=>Zn H R R R λa H=>Ze ?_)
     refine c_if H R c ?_ ?_
     ·intro ab c
      refine t_1 (Zm H R (Zax) λa H=>ZB (v:=(vI b.Field)) H R ty2 R (at_0 I.ra3) λa H=>Zm H R (qf) λa H=>Zq H R JQ R (at_2 I.ra3) (u_1 _) λa H=>Zq H R ZL R I.ra2 (u_1 _) λa H=>?_)
      obtain ⟨C,am,c⟩:=p_1 c
      refine Zp H R (cbm func283) (qs _ b.Field b.Mix X C am) ?_
      rintro v w a ⟨rfl,hK⟩ H
      have I:=(I.keep hK).pl2
      refine Zl (seg:=enc C) (cs':=enc C) H I Za R R R ZL (u_1 _) (zle flq) (s_1 _) (Zh flq) λw a I H=>Zj ?_
      obtain rfl:=o_1 c
      refine Zk ?_
      have I:=I.pl3.pl1.pl3.pl3
      exact ⟨H.s,I⟩
     intro ab c
     refine u_2 ?_
     obtain rfl:=o_1 c
     refine Zk ?_
     exact ⟨H.s,I⟩
    rintro a w ⟨H,I⟩
    obtain ⟨an,x,i⟩:=bix i
    obtain ⟨F,ao,i⟩:=p_1 i
    refine Z9 [41,42,43,44,45,46] Yx R R dd_ R H I (qsP (λz=>Zx z.E Za ld R ZL R (z.M.ra2) (u_1 _) (kr0 R)) (q_m (λ_=>R) (q_m (λ_=>R) (qsP (λz=>Z6 z.E Za ld R R s_3 ZL (z.M.sl0) x.1 (kr0 R)) (qsP (λz=>Zx z.E Za ld R ZL R (YG (z.M.sl0) x.2) (u_1 _) (kr0 R)) (qsP (λz=>Z8 z.E Za ld R Zau (Qb _ aa an F ao) (kc R)) qs0)))))) ?_
    ·intro a w u H I
     have I:=I.pl2
     refine Zl (seg:=enc F) (cs':=enc F) H I Za R R R ZL (u_1 _) (zle flq) (s_1 _) (Zh flq) λw a I H=>Zj (Yy ?_)
     obtain rfl:=o_1 i
     refine Zk ?_
     have I:=I.pl3.pl1.pl3.pl3
     exact ⟨H.s,I⟩
   rintro a w ⟨H,I⟩
   refine t_1 (Zd H R λa H=>Zn H R R R λa H=>Zc H R λa H=>Zj (Zk ?_))
   exact ⟨_,ois W,H.s,I⟩
  intro T e
  refine s_4 (Zu (Zu (YE ?_)))
  obtain rfl:=O _ (ois e)
  refine Zk ?_
  have I:=M.fst (l:=[_,_]) I.pl2.pl2
  exact ⟨H.s,I⟩
 rintro a w ⟨H,I⟩
 refine ZA (Zb (Zq H R ZL R I.ra1 (u_1 _) λa H=>Zl (seg:=enc A) (cs':=enc A) H I Za R R R ZL (u_1 _) (zle flq) (s_1 _) (Zh flq) λw a I H=>Ze ?_))
 obtain rfl:=o_1 N
 have ac : Z7 prog _ _ (.cell 8 53) _:=ZE H R ZL R I.ra0 (u_1 _) R
 exact p_3 (ZY H R ac ⟨_,R,R,I.kept⟩)
def Vy (d : V16) (e : V16) (b : V32 × Int) : Option (Fl (V32 × Int) V32) :=
 if decide (b.2 < 16) then ((Z4 d b.2).bind λc=>(Z4 b.1 b.2).bind λh=>(Z4 e b.2).bind λf=>(Z4 (b.1.setIfInBounds (b.2).toNat c) (wr (16 + b.2))).bind λi=>some (Fl.nx (((b.1.setIfInBounds (b.2).toNat c).setIfInBounds ((wr (16 + b.2))).toNat f),wr (b.2 + 1)))) else (some (Fl.ex b.1))
def V1 (e : GCipher) (m : V32) (l : V16) : Option (V32) :=
 (Tu m).bind λf=>(Wr f.1 l).bind λb=>(Wr f.2 l).bind λc=>(Wb e f.2 b e.Rounds).bind λh=>(Wr h b).bind λd=>(Wb e d c e.Rounds).bind λi=>(Wr i c).bind λj=>(ZQ (Vy d j) ((Vector.replicate 32 (0 : UInt8)),0)).bind λk=>some k
theorem ym (U : World) (c : GCipher) (W : V32) (L : V16) (r : V32) (J : V1 c W L = some r) :
  Calls prog 260 [Value.agg (enc c).toArray,Value.agg (enc W).toArray,Value.agg (enc L).toArray].toArray U (Rt U (Value.agg (enc r).toArray)):=by
 refine ce func260 ?_
 intro a H
 have I:=M.start U
 unfold V1 at J
 refine Zb (Z1 (cs:=cat [[vI c.Field],enc c.Box,enc c.Mix,enc c.Places,[vI c.Rounds]]) H I Za ld R R λb1 w a I H=>Z1 (cs:=enc W) H I Za ld R R λb3 w a I H=>Z1 (cs:=enc L) H I Za ld R R λb5 w a I H=>Zv H I ZW λX w a I H=>Ze (Zb (Zq H R ZW R I.ra2 (u_1 _) λa H=>?_)))
 obtain ⟨o,ax,J⟩:=p_1 J
 refine c_k H I R (cbm func310) (yj _ W o ax) λw a I H=>?_
 refine Zd H R λa H=>ZF H Za ld R R λa H=>ZF H Za ld R R λa H=>Zv H I ZL λY w a I H=>Zv H I ZL λZ w a I H=>?_
 have I:=I.pl1
 refine Zl (seg:=enc o.1) (cs':=enc o.1) H I Za R R R ZL (u_1 _) (zle flq) (s_1 _) (Zh flq) λw a I H=>?_
 have I:=I.pl1
 refine Zl (seg:=enc o.2) (cs':=enc o.2) H I Za R R R ZL (u_1 _) (zle flq) (s_1 _) (Zh flq) λw a I H=>Ze (s_2 ?_)
 obtain ⟨j,ay,J⟩:=p_1 J
 obtain ⟨m,az,J⟩:=p_1 J
 refine Ys (its:=[raw Z (enc o.2),raw Y (enc o.1),raw X xm,raw b5 (enc L),raw b3 (enc W),raw b1 (cat [[vI c.Field],enc c.Box,enc c.Mix,enc c.Places,[vI c.Rounds]])]) (mk:=([mkO 6 (λv=>Wk v xl),mkO 7 (λv=>Wk v xl)] : Mk)) [20,21,22,23,24,25,9,10] Yx R R dd_ R H (λu=>M.qE (M.qE (M.q0 I.drew u) emO) emO) (qsP (λz=>Zx z.E Za ld R ZL R (z.M.ra1) (u_1 _) (kr0 R)) (qsP (λz=>Zx z.E Za ld R ZL R (z.M.ra3) (u_1 _) (kr0 R)) (qsP (λz=>Z8 z.E Za ld R Zau (Qb _ o.1 L j ay) (kc R)) (qsP (λz=>Zx z.E Za ld R ZL R (z.M.ra0) (u_1 _) (kr0 R)) (qsP (λz=>Zx z.E Za ld R ZL R (z.M.ra3) (u_1 _) (kr0 R)) (qsP (λz=>Z8 z.E Za ld R Zau (Qb _ o.2 L m az) (kc R)) (q_t ?_ (q_t ?_ qs0)))))))) ?_
 ·intro a w N D z
  have H:=z.E
  have hD : D 6 = false:=z.F
  have I:=z.M
  refine Zv H I ZL λa6 w a I H=>?_
  have I:=I.pack1 (it:=Wk _ xl) (λw w' fp ⟨b',e,k⟩ hb=>⟨b',e,YN w w' fp k hb⟩) (λfp k=>⟨_,R,k⟩)
  exact ⟨_,_,R,H,M.qFill (mk1:=[]) (mk2:=[_]) (f:=λv=>Wk v xl) I R hD,trivial⟩
 ·intro a w N D z
  have H:=z.E
  have hD : D 7 = false:=z.F
  have I:=z.M
  refine Zv H I ZL λa7 w a I H=>?_
  have I:=I.pack1 (it:=Wk _ xl) (λw w' fp ⟨b',e,k⟩ hb=>⟨b',e,YN w w' fp k hb⟩) (λfp k=>⟨_,R,k⟩)
  exact ⟨_,_,R,H,M.qFill (mk1:=[_]) (mk2:=[]) (f:=λv=>Wk v xl) I R hD,trivial⟩
 intro a w N D H I hG h
 have d6:=h 6 dd_
 have d7:=h 7 dd_
 have I:=(I.sure (pre:=[_,_,_,_,_,_]) d6).pl
 obtain ⟨_,⟨aa,af,_⟩,_⟩:=I.head
 have I:=((I.pack1 YN (it:=raw aa xl) (λfp ⟨b2,n,k2⟩=>by rw [af] at n; simp [ptr] at n; subst n; exact k2)).sure (pre:=[_,_,_,_,_,_,_]) d7).pl
 obtain ⟨_,⟨ac,ag,_⟩,_⟩:=I.head
 have I:=I.pack1 YN (it:=raw ac xl) (λfp ⟨b2,n,k2⟩=>by rw [ag] at n; simp [ptr] at n; subst n; exact k2)
 have H:=H.setq (t:=9) R af
 have H:=H.setq (t:=10) R ag
 have I:=I.pl1
 refine Zl (seg:=enc j) (cs':=enc j) H I Za R R R ZL (u_1 _) (zle flq) (s_1 _) (Zh flq) λw a I H=>?_
 have I:=I.pl1
 refine Zl (seg:=enc m) (cs':=enc m) H I Za R R R ZL (u_1 _) (zle flq) (s_1 _) (Zh flq) λw a I H=>Zj (ZA (s_2 ?_))
 obtain ⟨ah,a1,J⟩:=p_1 J
 obtain ⟨q,a2,J⟩:=p_1 J
 refine Ys (its:=[raw ac (enc m),raw aa (enc j),raw Z (enc o.2),raw Y (enc o.1),raw X xm,raw b5 (enc L),raw b3 (enc W),raw b1 (cat [[vI c.Field],enc c.Box,enc c.Mix,enc c.Places,[vI c.Rounds]])]) (mk:=([mkO 8 (λv=>Wk v xl)] : Mk)) [26,27,28,29,30,31,32,33,11] Yx R R dd_ R H (λu=>M.qE (M.q0 I.drew u) emO) (qsP (λz=>Zx z.E Za ld R KU R (z.M.ra7) cq (kr0 R)) (qsP (λz=>Zx z.E Za ld R ZL R (z.M.ra2) (u_1 _) (kr0 R)) (qsP (λz=>Zx z.E Za ld R ZL R (z.M.ra1) (u_1 _) (kr0 R)) (qsP (λz=>Zi z.E Za ld R (Zdl) (kr0 R)) (qsP (λz=>Zz (v:=(vI c.Rounds)) z.E Za ld R ty2 R (at_4 (z.M.ra7)) (kr0 R)) (qsP (λz=>Z8 z.E Za ld R (cbm func209) (J5 _ c o.2 j c.Rounds ah a1) (kc R)) (qsP (λz=>Zx z.E Za ld R ZL R (z.M.ra1) (u_1 _) (kr0 R)) (qsP (λz=>Z8 z.E Za ld R Zau (Qb _ ah j q a2) (kc R)) (q_t ?_ qs0))))))))) ?_
 ·intro a w ai D z
  have H:=z.E
  have hD : D 8 = false:=z.F
  have I:=z.M
  refine Zv H I ZL λba w a I H=>?_
  have I:=I.pack1 (it:=Wk _ xl) (λw w' fp ⟨b',e,k⟩ hb=>⟨b',e,YN w w' fp k hb⟩) (λfp k=>⟨_,R,k⟩)
  exact ⟨_,_,R,H,M.qFill (mk1:=[]) (mk2:=[]) (f:=λv=>Wk v xl) I R hD,trivial⟩
 intro a w ai D H I hG h
 have d8:=h 8 dd_
 have I:=(I.sure (pre:=[_,_,_,_,_,_,_,_]) d8).pl
 obtain ⟨_,⟨C,aj,_⟩,_⟩:=I.head
 have I:=I.pack1 YN (it:=raw C xl) (λfp ⟨b2,n,k2⟩=>by rw [aj] at n; simp [ptr] at n; subst n; exact k2)
 have H:=H.setq (t:=11) R aj
 refine Zl (seg:=enc q) (cs':=enc q) H I Za R R R ZL (u_1 _) (zle flq) (s_1 _) (Zh flq) λw a I H=>Zj (ZA (s_2 ?_))
 obtain ⟨ak,a4,J⟩:=p_1 J
 obtain ⟨G,a5,J⟩:=p_1 J
 refine Ys (its:=[raw C (enc q),raw ac (enc m),raw aa (enc j),raw Z (enc o.2),raw Y (enc o.1),raw X xm,raw b5 (enc L),raw b3 (enc W),raw b1 (cat [[vI c.Field],enc c.Box,enc c.Mix,enc c.Places,[vI c.Rounds]])]) (mk:=([mkO 8 (λv=>Wk v xl)] : Mk)) [34,35,36,37,38,39,40,41,12] Yx R R dd_ R H (λu=>M.qE (M.q0 I.drew u) emO) (qsP (λz=>Zx z.E Za ld R KU R (z.M.ra8) cq (kr0 R)) (qsP (λz=>Zx z.E Za ld R ZL R (z.M.ra0) (u_1 _) (kr0 R)) (qsP (λz=>Zx z.E Za ld R ZL R (z.M.ra1) (u_1 _) (kr0 R)) (qsP (λz=>Zi z.E Za ld R (Zdl) (kr0 R)) (qsP (λz=>Zz (v:=(vI c.Rounds)) z.E Za ld R ty2 R (at_4 (z.M.ra8)) (kr0 R)) (qsP (λz=>Z8 z.E Za ld R (cbm func209) (J5 _ c q m c.Rounds ak a4) (kc R)) (qsP (λz=>Zx z.E Za ld R ZL R (z.M.ra1) (u_1 _) (kr0 R)) (qsP (λz=>Z8 z.E Za ld R Zau (Qb _ ak m G a5) (kc R)) (q_t ?_ qs0))))))))) ?_
 ·intro a w al D z
  have H:=z.E
  have hD : D 8 = false:=z.F
  have I:=z.M
  refine Zv H I ZL λbb w a I H=>?_
  have I:=I.pack1 (it:=Wk _ xl) (λw w' fp ⟨b',e,k⟩ hb=>⟨b',e,YN w w' fp k hb⟩) (λfp k=>⟨_,R,k⟩)
  exact ⟨_,_,R,H,M.qFill (mk1:=[]) (mk2:=[]) (f:=λv=>Wk v xl) I R hD,trivial⟩
 intro a w al D H I hG h
 have d8:=h 8 dd_
 have I:=(I.sure (pre:=[_,_,_,_,_,_,_,_,_]) d8).pl
 obtain ⟨_,⟨ad,am,_⟩,_⟩:=I.head
 have I:=I.pack1 YN (it:=raw ad xl) (λfp ⟨b2,n,k2⟩=>by rw [am] at n; simp [ptr] at n; subst n; exact k2)
 have H:=H.setq (t:=12) R am
 refine Zl (seg:=enc G) (cs':=enc G) H I Za R R R ZL (u_1 _) (zle flq) (s_1 _) (Zh flq) λw a I H=>Zj (ZA (Zb (Y6 (parts:=[]) (vs:=[]) (cs:=enc xb) H Za ld R R ZW R ty5 YO λa H=>Zv H I ZW λK w a I H=>Zl (seg:=enc xb) (cs':=enc xb) H I Za R R R ZW (u_1 _) (zle flq) (s_1 _) (Zh flq) λw a I H=>Ze (s_2 (Zb (Zc H R λa H=>Ze ?_))))))
 obtain ⟨ae,an,ao⟩:=p_1 J
 refine ZV (λa w=>Env 59 a [(6,ptr X 0),(13,ptr K 0)] ∧ M (Old U) U w [raw K (enc ae),raw X xm]) ?_ ?_
 ·refine p_2 ?_
  have I:=M.fst (l:=[_,_,_,_]) I.pl7.pl3.pl3.pl3
  refine ZP (λ(d : V32 × Int) a w=>Env 59 a [(6,ptr X 0),(11,ptr C 0),(12,ptr ad 0),(13,ptr K 0),(14,vI d.2)] ∧ M (Old U) U w [raw K (enc d.1),raw ad (enc G),raw C (enc q),raw X xm]) an ⟨H.s,I⟩ ?_
  rintro d a w ⟨H,I⟩ bc b ap
  unfold Vy at b
  refine s_2 (Zb (Zd H R λa H=>Zn H R R R λa H=>Ze ?_))
  refine c_if H R b ?_ ?_
  ·intro aq b
   refine u_2 (ZA (s_2 (p_2 (Zb (Zd H R λa H=>Zd H R λa H=>?_)))))
   obtain ⟨i,O,b⟩:=bvx b
   refine ZR H R R o_4 ty5 O.1 λa H=>ZB (v:=(vB i)) H R ty5 R (At.vec I.ra2 O.2) λa H=>?_
   obtain ⟨bd,A,b⟩:=bvx b
   refine ZR H R R t_4 ty5 A.1 λa H=>Zl (seg:=[vB i]) (cs':=enc (d.1.setIfInBounds (d.2).toNat i)) H I Za R R R ty5 R (Yf (v:=d.1) (x:=i) A.1) (s_1 (i : UInt8)) (ZS (v:=d.1) (x:=i) A.1) λw a I H=>Ze (t_1 (Zd H R λa H=>Zn H R R R λa H=>Zd H R λa H=>?_))
   obtain ⟨y,T,b⟩:=bvx b
   refine ZR H R R o_4 ty5 T.1 λa H=>ZB (v:=(vB y)) H R ty5 R (At.vec I.ra1 T.2) λa H=>?_
   obtain ⟨be,B,b⟩:=bvx b
   refine ZR H R R t_4 ty5 B.1 λa H=>Zl (seg:=[vB y]) (cs':=enc ((d.1.setIfInBounds (d.2).toNat i).setIfInBounds ((wr (16 + d.2))).toNat y)) H I Za R R R ty5 R (Yf (v:=(d.1.setIfInBounds (d.2).toNat i)) (x:=y) B.1) (s_1 (y : UInt8)) (ZS (v:=(d.1.setIfInBounds (d.2).toNat i)) (x:=y) B.1) λw a I H=>Zj (Yy (ZA (t_1 (Zd H R λa H=>Zn H R R R λa H=>Zc H R λa H=>Zj (Zk ?_)))))
   exact ⟨_,ois b,H.s,I⟩
  intro aq b
  refine s_4 (Zu (Zu (YE ?_)))
  obtain rfl:=ap _ (ois b)
  refine Zk ?_
  have I:=M.fst (l:=[_,_]) I.pl3.pl1
  exact ⟨H.s,I⟩
 rintro a w ⟨H,I⟩
 refine ZA (Zb (Zq H R ZW R I.ra0 (u_1 _) λa H=>?_))
 have I:=I.pl1
 refine Zl (seg:=enc ae) (cs':=enc ae) H I Za R R R ZW (u_1 _) (zle flq) (s_1 _) (Zh flq) λw a I H=>Ze ?_
 obtain rfl:=o_1 ao
 have ar : Z7 prog _ _ (.cell 6 32) _:=ZE H R ZW R I.ra0 (u_1 _) R
 exact p_3 (ZY H R ar ⟨_,R,R,I.kept⟩)
def T8 (f : GCipher) (e : List V16) (b : V32 × Int) : Option (Fl (V32 × Int) V32) :=
 if decide (b.2 < (e.length : Int)) then ((idx e b.2).bind λc=>(V1 f b.1 c).bind λd=>some (Fl.nx (d,wr (b.2 + 1)))) else (some (Fl.ex b.1))
def VN (d : GCipher) (e : List UInt8) : Option (V32) :=
 (Kq e).bind λf=>(Tn f).bind λh=>(T0).bind λb=>(ZQ (T8 d h) (b,0)).bind λc=>some c
theorem JF (h : World) (c : GCipher) (C : List UInt8) (d : Value) (j : Ro h C [d]) (r : V32) (J : VN c C = some r) :
  Calls prog 191 [Value.agg (enc c).toArray,d].toArray h (Rt h (Value.agg (enc r).toArray)):=by
 refine ce func191 ?_
 intro a H
 have I:=M.start h
 unfold VN at J
 refine Zb (Z1 (cs:=cat [[vI c.Field],enc c.Box,enc c.Mix,enc c.Places,[vI c.Rounds]]) H I Za ld R R λL w a I H=>Zv H I ZW λB w a I H=>Ze (Zb (Zd H R λa H=>?_)))
 obtain ⟨N,T,J⟩:=p_1 J
 refine Zp H R (cbm func258) (qt _ C d (I.rdo j) N T) ?_
 rintro U w a ⟨_,rfl,hFr,hK⟩ H
 have I:=I.add hK hFr
 obtain ⟨O,W,J⟩:=p_1 J
 refine Zp H R (cbm func257) (yv _ N U (I.sl0) O W) ?_
 rintro o w a ⟨_,rfl,hFr,hK⟩ H
 have I:=I.add hK hFr
 obtain ⟨k,F,J⟩:=p_1 J
 refine c_k H I R (cbm func259) (jm _  k F) λw a I H=>?_
 refine Zv H I ZW λe w a I H=>Zc H R λa H=>Zl (seg:=enc k) (cs':=enc k) H I Za R R R ZW (u_1 _) (zle flq) (s_1 _) (Zh flq) λw a I H=>Ze (s_2 (Zb (Zc H R λa H=>Ze ?_)))
 obtain ⟨m,q,t⟩:=p_1 J
 refine ZV (λa w=>Env 26 a [(4,ptr B 0),(6,ptr e 0)] ∧ M (Old h) h w [raw e (enc m),raw B xm]) ?_ ?_
 ·refine p_2 ?_
  have I:=M.fst (l:=[_,_,_,_]) I.pl4.pl4.pl3.pl3
  refine ZP (λ(f : V32 × Int) a w=>Env 26 a [(2,ptr L 0),(4,ptr B 0),(5,o),(6,ptr e 0),(7,vI f.2)] ∧ M (Old h) h w [raw e (enc f.1),osl NoB O o,raw B xm,raw L (cat [[vI c.Field],enc c.Box,enc c.Mix,enc c.Places,[vI c.Rounds]])]) q ⟨H.s,I⟩ ?_
  rintro f a w ⟨H,I⟩ X b x
  unfold T8 at b
  refine s_2 (Zb (Zd H R λa H=>Zd H R λa H=>Yu H R s_3 (I.sl1) λa H=>Zn H R R R λa H=>Ze ?_))
  refine c_if H R b ?_ ?_
  ·intro y b
   refine u_2 (ZA (s_2 (p_2 ?_)))
   obtain ⟨G,i,b⟩:=bix b
   obtain ⟨n,K,b⟩:=p_1 b
   refine Z9 [18,19,20,21,22,23,24] Yx R R dd_ R H I (qsP (λz=>Zx z.E Za ld R KU R (z.M.ra3) cq (kr0 R)) (qsP (λz=>Zx z.E Za ld R ZW R (z.M.ra0) (u_1 _) (kr0 R)) (q_m (λ_=>R) (q_m (λ_=>R) (qsP (λz=>Z6 z.E Za ld R R s_3 ZL (z.M.sl1) i.1 (kr0 R)) (qsP (λz=>Zx z.E Za ld R ZL R (YG (z.M.sl1) i.2) (u_1 _) (kr0 R)) (qsP (λz=>Z8 z.E Za ld R (cbm func260) (ym _ c f.1 G n K) (kc R)) qs0))))))) ?_
   ·intro a w u H I
    refine Zl (seg:=enc n) (cs':=enc n) H I Za R R R ZW (u_1 _) (zle flq) (s_1 _) (Zh flq) λw a I H=>Zj (Yy (ZA (t_1 (Zd H R λa H=>Zn H R R R λa H=>Zc H R λa H=>Zj (Zk ?_)))))
    exact ⟨_,ois b,H.s,I⟩
  intro y b
  refine s_4 (Zu (Zu (YE ?_)))
  obtain rfl:=x _ (ois b)
  refine Zk ?_
  have I:=M.fst (l:=[_,_]) I.pl2.pl1
  exact ⟨H.s,I⟩
 rintro a w ⟨H,I⟩
 refine ZA (Zb (Zq H R ZW R I.ra0 (u_1 _) λa H=>?_))
 have I:=I.pl1
 refine Zl (seg:=enc m) (cs':=enc m) H I Za R R R ZW (u_1 _) (zle flq) (s_1 _) (Zh flq) λw a I H=>Ze ?_
 obtain rfl:=o_1 t
 have A : Z7 prog _ _ (.cell 4 32) _:=ZE H R ZW R I.ra0 (u_1 _) R
 exact p_3 (ZY H R A ⟨_,R,R,I.kept⟩)
def Tz (d : V32) (b : List UInt8 × Int) : Option (Fl (List UInt8 × Int) (List UInt8)) :=
 if decide (b.2 < 32) then ((Z4 d b.2).bind λc=>(app 1 b.1 ([c] : List UInt8)).bind λe=>some (Fl.nx ((b.1 ++ ([c] : List UInt8)),wr (b.2 + 1)))) else (some (Fl.ex b.1))
def WN (b : V32) : Option ((List UInt8)) :=
 (ZQ (Tz b) (([] : List UInt8),0)).bind λc=>some c
theorem Kz (c : World) (k : V32) (r : List UInt8) (J : WN k = some r) :
  Calls prog 305 [Value.agg (enc k).toArray].toArray c (e_r λv w'=>(∃ u : Value,v = u ∧ Fr c w' [osl NoB r u] ∧ Kept (Old c) c w')):=by
 refine ce func305 ?_
 intro a H
 have I:=M.start c
 unfold WN at J
 refine Zb (Z1 (cs:=enc k) H I Za ld R R λx w a I H=>Zc H R λa H=>Ze (Zb (ZM (xs:=[]) (l:=xv) (vs:=[]) H I Za ld R R o_2 ty5 R dd_ R λy w a I H=>Zc H R λa H=>Ze (s_2 (Zb (Zc H R λa H=>Ze ?_))))))
 obtain ⟨z,m,n⟩:=p_1 J
 refine ZV (λa w=>∃ u8 : Value,Env 17 a [(3,u8)] ∧ M (Old c) c w [osl NoB z u8]) ?_ ?_
 ·refine p_2 ?_
  have I:=I.pl1
  refine ZP (λ(f : List UInt8 × Int) a w=>∃ d : Value,Env 17 a [(1,ptr x 0),(3,d),(4,vI f.2)] ∧ M (Old c) c w [raw x (enc k),osl NoB f.1 d]) m ⟨y,H.s,I⟩ ?_
  rintro f a w ⟨d,H,I⟩ A b i
  unfold Tz at b
  refine s_2 (Zb (Zd H R λa H=>Zn H R R R λa H=>Ze ?_))
  refine c_if H R b ?_ ?_
  ·intro j b
   refine u_2 (ZA (s_2 (p_2 (t_1 (Zd H R λa H=>Zd H R λa H=>?_)))))
   obtain ⟨h,e,b⟩:=bvx b
   refine ZR H R R t_4 ty5 e.1 λa H=>ZB (v:=(vB h)) H R ty5 R (At.vec I.ra0 e.2) λa H=>ZM (xs:=[.tmp 13]) (l:=([h] : List UInt8)) (vs:=[vB h]) H I Za ld R R o_2 ty5 R dd_ R λB w a I H=>?_
   obtain ⟨C,o,b⟩:=p_1 b
   obtain ⟨q,rfl⟩:=ZU o
   have I:=I.pl2
   refine ZX H I Za ld R R (I.sl1) o_2 ty5 R dd_ q λt w a I H=>Zc H R λa H=>Zj (Yy (ZA (t_1 (Zd H R λa H=>Zn H R R R λa H=>Zc H R λa H=>Zj (Zk ?_)))))
   have I:=M.fst (l:=[_,_]) I.pl2
   exact ⟨_,ois b,t,H.s,I⟩
  intro j b
  refine s_4 (Zu (Zu (YE ?_)))
  obtain rfl:=i _ (ois b)
  refine Zk ?_
  have I:=M.fst (l:=[_]) I.pl1
  exact ⟨d,H.s,I⟩
 rintro a w ⟨u8,H,I⟩
 refine ZA (Zb (Zd H R λa H=>Zc H R λa H=>Ze ?_))
 obtain rfl:=o_1 n
 exact p_3 (ZY H R (Zy H R) ⟨_,R,u8,R,I.outF (ZK Yd),I.kept⟩)
def Tq (b : Int) : Option ((List UInt8)) :=
 some ([ZC (JG (Vj b 24) 255),ZC (JG (Vj b 16) 255),ZC (JG (Vj b 8) 255),ZC (JG b 255)] : List UInt8)
theorem BO (c : World) (b : Int) (r : List UInt8) (J : Tq b = some r) :
  Calls prog 244 [vI b].toArray c (e_r λv w'=>(∃ d : Value,v = d ∧ Fr c w' [osl NoB r d] ∧ Kept (Old c) c w')):=by
 refine ce func244 ?_
 intro a H
 have I:=M.start c
 unfold Tq at J
 refine Zb (Zc H R λa H=>Ze (Zb (Zd H R λa H=>A2 H Za ld R R (BD _ _ dd_) λa H=>Zn H R R R λa H=>Y5 H Za ld R o_5 u_3 λa H=>Zd H R λa H=>A2 H Za ld R R (BD _ _ dd_) λa H=>Zn H R R R λa H=>Y5 H Za ld R o_5 u_3 λa H=>Zd H R λa H=>A2 H Za ld R R (BD _ _ dd_) λa H=>Zn H R R R λa H=>?_)))
 refine Y5 H Za ld R o_5 u_3 λa H=>Zd H R λa H=>Zn H R R R λa H=>Y5 H Za ld R o_5 u_3 λa H=>ZM (xs:=[.tmp 6,.tmp 10,.tmp 14,.tmp 17]) (l:=([ZC (JG (Vj b 24) 255),ZC (JG (Vj b 16) 255),ZC (JG (Vj b 8) 255),ZC (JG b 255)] : List UInt8)) (vs:=[vB (ZC (JG (Vj b 24) 255)),vB (ZC (JG (Vj b 16) 255)),vB (ZC (JG (Vj b 8) 255)),vB (ZC (JG b 255))]) H I Za ld R R o_2 ty5 R dd_ R λe w a I H=>Zc H R λa H=>Ze ?_
 obtain rfl:=o_1 J
 exact p_3 (ZY H R (Zy H R) ⟨_,R,e,R,I.outF (ZK Yd),I.kept⟩)
def Qy (k : V32) (e : GEvent) : Option (V32) :=
 ((WN k).bind λc=>(app 1 c ([ZC e.Kind] : List UInt8)).bind λl=>some (c ++ ([ZC e.Kind] : List UInt8)) : Option ((List UInt8))).bind λf=>(Tq e.Number).bind λb=>(app 1 f b).bind λm=>((Wh).bind λh=>(WN e.Tag).bind λd=>(app 1 (f ++ b) d).bind λn=>(VN h ((f ++ b) ++ d)).bind λi=>some i : Option (V32)).bind λj=>some j
theorem kb (m : World) (x : V32) (c : GEvent) (r : V32) (J : Qy x c = some r) :
  Calls prog 250 [Value.agg (enc x).toArray,Value.agg (enc c).toArray].toArray m (Rt m (Value.agg (enc r).toArray)):=by
 refine ce func250 ?_
 intro a H
 have I:=M.start m
 unfold Qy at J
 refine Zb (Z1 (cs:=enc x) H I Za ld R R λb1 w a I H=>Z1 (cs:=cat [[vI c.Kind],[vI c.Number],enc c.Tag]) H I Za ld R R λG w a I H=>Zv H I ZW λt w a I H=>Ze ?_)
 obtain ⟨K,e,h⟩:=p_1 J
 refine ZI (λa w=>∃ n : Value,Env 25 a [(3,ptr G 0),(4,ptr t 0),(5,n)] ∧ M (Old m) m w [raw t xm,raw G (cat [[vI c.Kind],[vI c.Number],enc c.Tag]),osl NoB K n]) ?_ ?_
 ·obtain ⟨o,L,e⟩:=p_1 e
  refine Ys (its:=[raw t xm,raw G (cat [[vI c.Kind],[vI c.Number],enc c.Tag]),raw b1 (enc x)]) (mk:=([mkO 1 (λv=>osl NoB o v),mkO 5 (λv=>osl NoB (([ZC c.Kind] : List UInt8) : List UInt8) v)] : Mk)) [6,7,8,9,10,11] Yx R R dd_ R H (λu=>M.qE (M.qE (M.q0 I.drew u) emO) emO) (qsP (λz=>Zx z.E Za ld R ZW R (z.M.ra2) (u_1 _) (kr0 R)) (q_t ?_ (qsP (λz=>Zi z.E Za ld R (KY) (kr0 R)) (qsP (λz=>Zz (v:=(vI c.Kind)) z.E Za ld R ty2 R (at_0 (z.M.ra1)) (kr0 R)) (qsP (λz=>Y5 z.E Za ld R o_5 u_3 (kr0 R)) (q_t ?_ qs0)))))) ?_
  ·intro a w k D z
   have H:=z.E
   have hD : D 1 = false:=z.F
   have hM0:=z.M
   have I:=z.M
   refine Zp H R Zfq (Kz _ x o L) ?_
   rintro _ w a ⟨_,rfl,hFr,hK⟩ H
   have I:=hM0.add hK hFr
   exact ⟨_,_,R,H,M.qFill (mk1:=[]) (mk2:=[_]) (f:=(λv=>osl NoB o v)) I R hD,trivial⟩
  ·intro a w k D z
   have H:=z.E
   have hD : D 5 = false:=z.F
   have I:=z.M
   exact ZM (xs:=[.tmp 10]) (l:=([ZC c.Kind] : List UInt8)) (vs:=[vB (ZC c.Kind)]) H I Za ld R R o_2 ty5 R dd_ R λai w a I H=>⟨_,_,R,H,M.qFill (mk1:=[_]) (mk2:=[]) (f:=(λv=>osl NoB (([ZC c.Kind] : List UInt8) : List UInt8) v)) I R hD,trivial⟩
  intro a w k D H I hG d
  have d1:=d 1 dd_
  have d5:=d 5 dd_
  have I:=(I.sure (pre:=[_,_,_]) d1).sure (pre:=[_,_,_,_]) d5
  obtain ⟨al,N,e⟩:=p_1 e
  obtain ⟨O,rfl⟩:=ZU N
  have I:=I.pl3
  refine ZX H I Za ld R R (I.sl4) o_2 ty5 R dd_ O λT w a I H=>Zc H R λa H=>Zj ?_
  obtain rfl:=o_1 e
  refine Zk ?_
  have I:=M.fst (l:=[_,_,_]) I.pl2.pl2
  exact ⟨T,H.s,I⟩
 rintro a w ⟨n,H,I⟩
 refine Zb (Zd H R λa H=>Zm H R (JI) λa H=>ZB (v:=(vI c.Number)) H R ty2 R (at_1 I.ra1) λa H=>?_)
 obtain ⟨i,U,h⟩:=p_1 h
 refine Zp H R (cbm func244) (BO _ c.Number i U) ?_
 rintro W w a ⟨_,rfl,hFr,hK⟩ H
 have I:=I.add hK hFr
 obtain ⟨am,X,h⟩:=p_1 h
 obtain ⟨Y,rfl⟩:=ZU X
 have I:=I.pl3
 refine ZX H I Za ld R R (I.sl1) o_2 ty5 R dd_ Y λZ w a I H=>Zc H R λa H=>Ze ?_
 obtain ⟨aa,b,y⟩:=p_1 h
 refine ZI (λa w=>Env 25 a [(4,ptr t 0)] ∧ M (Old m) m w [raw t (enc aa)]) ?_ ?_
 ·obtain ⟨A,ab,b⟩:=p_1 b
  obtain ⟨j,ac,b⟩:=p_1 b
  refine Ys (its:=[osl NoB ((K ++ i) : List UInt8) Z,osl NoB i W,raw t xm,raw G (cat [[vI c.Kind],[vI c.Number],enc c.Tag])]) (mk:=([mkO 4 (λv=>osl NoB j v)] : Mk)) [18,19,20,21,22] Yx R R dd_ R H (λu=>M.qE (M.q0 I.drew u) emO) (qsP (λz=>Z8 z.E Za ld R Zfg (QY _  A ab) (kc R)) (q_m (λ_=>R) (qsP (λz=>Zi z.E Za ld R (jH) (kr0 R)) (qsP (λz=>Zx z.E Za ld R ZW R (at_2 (z.M.ra3)) (u_1 _) (kr0 R)) (q_t ?_ qs0))))) ?_
  ·intro a w B D z
   have H:=z.E
   have hD : D 4 = false:=z.F
   have hM0:=z.M
   have I:=z.M
   refine Zp H R Zfq (Kz _ c.Tag j ac) ?_
   rintro _ w a ⟨_,rfl,hFr,hK⟩ H
   have I:=hM0.add hK hFr
   exact ⟨_,_,R,H,M.qFill (mk1:=[]) (mk2:=[]) (f:=(λv=>osl NoB j v)) I R hD,trivial⟩
  intro a w B D H I hG d
  have d4:=d 4 dd_
  have I:=I.sure (pre:=[_,_,_,_]) d4
  obtain ⟨ao,ad,b⟩:=p_1 b
  obtain ⟨ae,rfl⟩:=ZU ad
  refine ZX H I Za ld R R (I.sl4) o_2 ty5 R dd_ ae λaf w a I H=>?_
  obtain ⟨q,ag,b⟩:=p_1 b
  refine Zp H R Zfs (JF _ A ((K ++ i) ++ j) af (I.sl0) q ag) ?_
  rintro v w a ⟨rfl,hK⟩ H
  have I:=(I.keep hK).pl2
  refine Zl (seg:=enc q) (cs':=enc q) H I Za R R R ZW (u_1 _) (zle flq) (s_1 _) (Zh flq) λw a I H=>Zj ?_
  obtain rfl:=o_1 b
  refine Zk ?_
  have I:=M.fst (l:=[_]) I
  exact ⟨H.s,I⟩
 rintro a w ⟨H,I⟩
 obtain rfl:=o_1 y
 have C : Z7 prog _ _ (.cell 4 32) _:=ZE H R ZW R I.ra0 (u_1 _) R
 exact p_3 (ZY H R C ⟨_,R,R,I.kept⟩)
def UC (e : List GEvent) (b : V32 × Int) : Option (Fl (V32 × Int) V32) :=
 if decide (b.2 < (e.length : Int)) then ((idx e b.2).bind λc=>(Qy b.1 c).bind λd=>some (Fl.nx (d,wr (b.2 + 1)))) else (some (Fl.ex b.1))
def W6 (d : List GEvent) : Option (V32) :=
 (Wh).bind λe=>(mkS 1 (0 : UInt8) 32).bind λf=>(VN e f).bind λb=>(ZQ (UC d) (b,0)).bind λc=>some c
theorem K3 (n : World) (Z : List GEvent) (d : Value) (c : Ro n Z [d]) (r : V32) (J : W6 Z = some r) :
  Calls prog 160 [d].toArray n (Rt n (Value.agg (enc r).toArray)):=by
 refine ce func160 ?_
 intro a H
 have I:=M.start n
 unfold W6 at J
 refine Zb (Zv H I ZW λA w a I H=>Ze (s_2 ?_))
 obtain ⟨r4,e5,J⟩:=p_1 J
 obtain ⟨O,e7,J⟩:=p_1 J
 obtain ⟨i,T,J⟩:=p_1 J
 refine Ys (its:=[raw A xm]) (mk:=([mkO 1 (λv=>osl NoB O v),mkO 3 (λv=>Wk v xm)] : Mk)) [5,6,7,3] Yx R R dd_ R H (λu=>M.qE (M.qE (M.q0 I.drew u) emO) emO) (qsP (λz=>Z8 z.E Za ld R Zfg (QY _  r4 e5) (kc R)) (q_t ?_ (qsP (v:=(Value.agg (enc i).toArray)) ?_ (q_t ?_ qs0)))) ?_
 ·intro a w j D z
  have H:=z.E
  have hD : D 1 = false:=z.F
  have I:=z.M
  exact Zey H I Za ld R R o_2 ty5 R dd_ (λ_=>Jq.2 ⟨R,R⟩) e7 λu8 w a I H=>⟨_,_,R,H,M.qFill (mk1:=[]) (mk2:=[_]) (f:=(λv=>osl NoB O v)) I R hD,trivial⟩
 ·intro a w j D z
  have H:=z.E
  have U : D 1 = true:=z.p 1 _ R R
  have I:=z.M.sure (pre:=[_]) U
  refine Zp H R Zfs (JF _ r4 O (j 1) (I.sl1) i T) ?_
  rintro v w a ⟨rfl,hK⟩ H
  exact ⟨hK,_,R,H⟩
 ·intro a w j D z
  have H:=z.E
  have hD : D 3 = false:=z.F
  have I:=z.M
  refine Zv H I ZW λad w a I H=>?_
  have I:=I.pack1 (it:=Wk _ xm) (λw w' fp ⟨b',e,k⟩ hb=>⟨b',e,YN w w' fp k hb⟩) (λfp k=>⟨_,R,k⟩)
  exact ⟨_,_,R,H,M.qFill (mk1:=[_]) (mk2:=[]) (f:=λv=>Wk v xm) I R hD,trivial⟩
 intro a w j D H I hG o
 have U:=o 1 dd_
 have d3:=o 3 dd_
 have I:=((I.sure (pre:=[_]) U).sure (pre:=[_,_]) d3).pl
 obtain ⟨_,⟨h,B,_⟩,_⟩:=I.head
 have I:=I.pack1 YN (it:=raw h xm) (λfp ⟨b2,W,k2⟩=>by rw [B] at W; simp [ptr] at W; subst W; exact k2)
 have H:=H.setq (t:=3) R B
 refine Zl (seg:=enc i) (cs':=enc i) H I Za R R R ZW (u_1 _) (zle flq) (s_1 _) (Zh flq) λw a I H=>Zj (ZA (s_2 (Zb (Zc H R λa H=>Ze ?_))))
 obtain ⟨x,C,G⟩:=p_1 J
 refine ZV (λa w=>Env 21 a [(2,ptr A 0),(3,ptr h 0)] ∧ M (Old n) n w [raw h (enc x),raw A xm]) ?_ ?_
 ·refine p_2 ?_
  have I:=M.fst (l:=[_,_]) I.pl1.pl1
  refine ZP (λ(m : V32 × Int) a w=>Env 21 a [(0,d),(2,ptr A 0),(3,ptr h 0),(4,vI m.2)] ∧ M (Old n) n w [raw h (enc m.1),raw A xm]) C ⟨H.s,I⟩ ?_
  rintro m a w ⟨H,I⟩ ag b K
  unfold UC at b
  refine s_2 (Zb (Zd H R λa H=>Zd H R λa H=>Yu H R p_4 (I.rd c) λa H=>Zn H R R R λa H=>Ze ?_))
  refine c_if H R b ?_ ?_
  ·intro L b
   refine u_2 (ZA (s_2 (p_2 ?_)))
   obtain ⟨X,q,b⟩:=bix b
   obtain ⟨y,Y,b⟩:=p_1 b
   refine Z9 [14,15,16,17,18,19] Yx R R dd_ R H I (qsP (λz=>Zx z.E Za ld R ZW R (z.M.ra0) (u_1 _) (kr0 R)) (q_m (λ_=>R) (q_m (λ_=>R) (qsP (λz=>Z6 z.E Za ld R R p_4 Xn (z.M.rd c) q.1 (kr0 R)) (qsP (λz=>Zx z.E Za ld R Xn R (YG (z.M.rd c) q.2) cq (kr0 R)) (qsP (λz=>Z8 z.E Za ld R (cbm func250) (kb _ m.1 X y Y) (kc R)) qs0)))))) ?_
   ·intro a w u H I
    refine Zl (seg:=enc y) (cs':=enc y) H I Za R R R ZW (u_1 _) (zle flq) (s_1 _) (Zh flq) λw a I H=>Zj (Yy (ZA (t_1 (Zd H R λa H=>Zn H R R R λa H=>Zc H R λa H=>Zj (Zk ?_)))))
    exact ⟨_,ois b,H.s,I⟩
  intro L b
  refine s_4 (Zu (Zu (YE ?_)))
  obtain rfl:=K _ (ois b)
  refine Zk ?_
  exact ⟨H.s,I⟩
 rintro a w ⟨H,I⟩
 refine ZA (Zb (Zq H R ZW R I.ra0 (u_1 _) λa H=>?_))
 have I:=I.pl1
 refine Zl (seg:=enc x) (cs':=enc x) H I Za R R R ZW (u_1 _) (zle flq) (s_1 _) (Zh flq) λw a I H=>Ze ?_
 obtain rfl:=o_1 G
 have N : Z7 prog _ _ (.cell 2 32) _:=ZE H R ZW R I.ra0 (u_1 _) R
 exact p_3 (ZY H R N ⟨_,R,R,I.kept⟩)
def TW (d : V16) : Option (GVault) :=
 ((W6 ([] : List GEvent)).bind λb=>some (([d] : List V16),1,b) : Option (List V16 × Int × V32)).bind λc=>some (⟨c.1,c.2.1,[],[],c.2.2⟩ : GVault)
theorem y5 (e : World) (d : V16) (r : GVault) (J : TW d = some r) :
  Calls prog 53 [Value.agg (enc d).toArray].toArray e (e_r λv w'=>(∃ q t x : Value,v = (vcV q t x r) ∧ Fr e w' [osl NoB r.Keys q,osl NoB r.Records t,osl NoB r.Events x] ∧ Kept (Old e) e w')):=by
 refine ce func53 ?_
 intro a H
 have I:=M.start e
 unfold TW at J
 refine Zb (Z1 (cs:=enc d) H I Za ld R R λy w a I H=>Zv H I ZG λk w a I H=>Ze ?_)
 obtain ⟨m,h,n⟩:=p_1 J
 refine ZI (λa w=>∃ u8 : Value,Env 7 a [(2,ptr k 0)] ∧ M (Old e) e w [raw k (cat [[u8],[vI m.2.1],[xd],[xd],enc m.2.2]),osl NoB m.1 u8]) ?_ ?_
 ·obtain ⟨c,o,h⟩:=p_1 h
  refine Ys (its:=[raw k xh,raw y (enc d)]) (mk:=([mkO 1 (λv=>osl NoB (([d] : List V16) : List V16) v)] : Mk)) [3,4,5] Yx R R dd_ R H (λu=>M.qE (M.q0 I.drew u) emO) (qsP (λz=>Zx z.E Za ld R ZL R (z.M.ra1) (u_1 _) (kr0 R)) (q_t ?_ (qsP (λz=>Z8 z.E Za ld R Ze6 (K3 _ xB xd Zdr c o) (kc R)) qs0))) ?_
  ·intro a w b D z
   have H:=z.E
   have hD : D 1 = false:=z.F
   have I:=z.M
   exact ZM (xs:=[.tmp 3]) (l:=([d] : List V16)) (vs:=[Value.agg (enc d).toArray]) H I Za ld R R s_3 ZL R dd_ R λA w a I H=>⟨_,_,R,H,M.qFill (mk1:=[]) (mk2:=[]) (f:=(λv=>osl NoB (([d] : List V16) : List V16) v)) I R hD,trivial⟩
  intro a w b D H I hG i
  have B:=i 1 dd_
  have I:=I.sure (pre:=[_,_]) B
  refine Yi (parts:=[(0,.tmp 4),(1,.const (vI 1)),(4,.tmp 5)]) (vs:=[(0,b 1),(1,vI 1),(4,Value.agg (enc c).toArray)]) (cs:=cat [[b 1],[vI 1],[xd],[xd],enc c]) H Za ld R R ZG Ju (Ya (pre:=[]) (seg:=[xd]) (seg':=[b 1]) (post:=[[vI 0],[xd],[xd],enc xb]) R cl0 R R (Z5 (I.sl2)) (Ya (pre:=[[b 1]]) (seg:=[vI 0]) (seg':=[vI 1]) (post:=[[xd],[xd],enc xb]) R ck R R R (Ya (pre:=[[b 1],[vI 1],[xd],[xd]]) (seg:=enc xb) (seg':=enc c) (post:=[]) R ck (u_1 _) (u_1 _) R YF))) λa H=>Zl (seg:=cat [[b 1],[vI 1],[xd],[xd],enc c]) (cs':=cat [[b 1],[vI 1],[xd],[xd],enc c]) H I Za R R R ZG cq (q_1 cq cq) (ZD (cc1 (t_2 (I.sl2)) (cc1 (s_1 (1 : Int)) (cc1 ZZ (cc1 ZZ (cc1 (s_1 _) cc0)))))) (q_2 cq cq) λw a I H=>Zj ?_
  obtain rfl:=o_1 h
  refine Zk ?_
  have I:=M.fst (l:=[_,_]) I.pl2.pl1
  exact ⟨b 1,H.s,I⟩
 rintro a w ⟨u8,H,I⟩
 have I:=M.nilS (α:=GEvent) NoB noB (M.nilS (α:=GRecord) NoB noB I)
 obtain rfl:=o_1 n
 have j : Z7 prog _ _ (.cell 2 79) _:=ZE H R ZG R I.ra2 cq R
 have I:=M.fst (l:=[_,_,_]) I.pl1.pl3
 exact p_3 (ZY H R j ⟨_,R,u8,xd,xd,R,I.outF (ZK (ZK (ZK Yd))),I.kept⟩)
def UW (b : Int) (c : Int) (d : Int) : Option (Bool) :=
 (if decide (b ≥ c) then (some (decide (b ≤ d))) else (some false) : Option (Bool)).bind λe=>some e
theorem JJ (d : World) (e : Int) (f : Int) (i : Int) (r : Bool) (J : UW e f i = some r) :
  Calls prog 241 [vI e,vI f,vI i].toArray d (Rt d (vT r)):=by
 refine ce func241 ?_
 intro a H
 have I:=M.start d
 unfold UW at J
 refine Zb (Zc H R λa H=>Ze ?_)
 obtain ⟨j,c,h⟩:=p_1 J
 refine ZI (λa w=>Env 15 a [(6,vT j)] ∧ M (Old d) d w []) ?_ ?_
 ·refine t_1 (Zd H R λa H=>Zd H R λa H=>Zn H R R R λa H=>Zd H R λa H=>?_)
  refine Yj (decide (e ≥ f)) (λb=>?_) (λb=>?_)
  ·have c:=Zt c b
   refine Zo H (Zg H R (lkb R b)) dd_ R λa H=>Zo H (Zg H R (lkb R b)) dd_ R λa H=>Yc H (Zg H R (lkb R b)) dd_ R R R λa H=>ZH H (lkb R b) R λa H=>Zc H R λa H=>Zj ?_
   obtain rfl:=o_1 c
   refine Zk ?_
   exact ⟨H.s,I⟩
  have c:=Zs c b
  refine k_s H b R R R λa H=>k_s H b R R R λa H=>k_s H b R R R λa H=>Z2 H (lkb R b) R λa H=>Zc H R λa H=>Zj ?_
  obtain rfl:=o_1 c
  refine Zk ?_
  exact ⟨H.s,I⟩
 rintro a w ⟨H,I⟩
 obtain rfl:=o_1 h
 exact p_3 (kr1 H R R I.kept)
def Ux (b : GEvent) : Option (Bool) :=
 ((UW b.Kind 1 4).bind λc=>if c then ((UW b.Number 0 1000000).bind λd=>some d) else (some false) : Option (Bool)).bind λe=>some e
theorem Be (e : World) (d : GEvent) (r : Bool) (J : Ux d = some r) :
  Calls prog 173 [Value.agg (enc d).toArray].toArray e (Rt e (vT r)):=by
 refine ce func173 ?_
 intro a H
 have I:=M.start e
 unfold Ux at J
 refine Zb (Z1 (cs:=cat [[vI d.Kind],[vI d.Number],enc d.Tag]) H I Za ld R R λn w a I H=>Zc H R λa H=>Ze ?_)
 obtain ⟨j,c,f⟩:=p_1 J
 refine ZI (λa w=>Env 11 a [(2,vT j)] ∧ M (Old e) e w []) ?_ ?_
 ·refine t_1 (Zm H R (KY) λa H=>ZB (v:=(vI d.Kind)) H R ty2 R (at_0 I.ra0) λa H=>?_)
  obtain ⟨i,k,c⟩:=p_1 c
  refine c_k H I R Zfb (JJ _ d.Kind 1 4 i k) λw a I H=>?_
  refine Zd H R λa H=>?_
  refine Yj i (λb=>?_) (λb=>?_)
  ·have c:=Zt c b
   refine Zi H (Zg H R (lkb R b)) dd_ R (JI) λa H=>Zz (v:=(vI d.Number)) H (Zg H R (lkb R b)) dd_ R ty2 R (at_1 I.ra0) λa H=>?_
   obtain ⟨m,h,c⟩:=p_1 c
   refine Z8 H (Zg H R (lkb R b)) dd_ R Zfb (JJ _ d.Number 0 1000000 m h) ?_
   rintro v w a ⟨rfl,hK⟩ H
   have I:=I.keep hK
   refine ZH H (lkb R b) R λa H=>Zc H R λa H=>Zj ?_
   obtain rfl:=o_1 c
   refine Zk ?_
   have I:=M.fst (l:=[]) I
   exact ⟨H.s,I⟩
  have c:=Zs c b
  refine k_s H b R R R λa H=>k_s H b R R R λa H=>k_s H b R R R λa H=>Z2 H (lkb R b) R λa H=>Zc H R λa H=>Zj ?_
  obtain rfl:=o_1 c
  refine Zk ?_
  have I:=M.fst (l:=[]) I
  exact ⟨H.s,I⟩
 rintro a w ⟨H,I⟩
 obtain rfl:=o_1 f
 exact p_3 (kr1 H R R I.kept)
def Qd (d : GVault) (c : Int × Int) : Option (Fl (Int × Int) (Fl Unit Bool)) :=
 if decide (c.2 < (d.Records.length : Int)) then ((idx d.Records c.2).bind λb=>(if decide (b.Number ≤ c.1) then (some true) else (if decide (b.Number ≥ d.Next) then (some true) else ((UW b.Version 0 (wr ((d.Keys.length : Int) - 1))).bind λe=>if !e then (some true) else (if decide ((b.Label.length : Int) > 32) then (some true) else (some (decide ((b.Body.length : Int) > 200)))))) : Option (Bool)).bind λf=>if f then (some (Fl.ex (Fl.ex false))) else (some (Fl.nx (b.Number,wr (c.2 + 1))))) else (some (Fl.ex (Fl.nx ())))
def Ko (e : GVault) (b : Int) : Option (Fl Int (Fl Unit Bool)) :=
 if decide (b < (e.Events.length : Int)) then ((idx e.Events b).bind λc=>(Ux c).bind λd=>if !d then (some (Fl.ex (Fl.ex false))) else (some (Fl.nx (wr (b + 1))))) else (some (Fl.ex (Fl.nx ())))
def X9 (b : GVault) : Option (Bool) :=
 (if decide ((b.Keys.length : Int) < 1) then (some true) else (if decide ((b.Keys.length : Int) > 8) then (some true) else ((UW b.Next 1 1000000).bind λc=>if !c then (some true) else (if decide ((b.Records.length : Int) > 12) then (some true) else (some (decide ((b.Events.length : Int) > 60)))))) : Option (Bool)).bind λf=>if f then (some false) else ((ZQ (Qd b) (0,0)).bind λd=>d.el (λh=>(ZQ (Ko b) 0).bind λe=>e.el (λi=>some true) (λr=>some r)) (λr=>some r))
theorem UG (B : World) (y : GVault) (d : Value) (E : Ro B y.Keys [d]) (h : Value) (z : Ro B y.Records [h]) (q : Value) (A : Ro B y.Events [q]) (r : Bool) (J : X9 y = some r) :
  Calls prog 149 [vcV d h q y].toArray B (Rt B (vT r)):=by
 refine ce func149 ?_
 intro a H
 have I:=M.start B
 unfold X9 at J
 refine Zb (Z1 (cs:=cV d h q y) H I Za ld R R λT w a I H=>Zc H R λa H=>Ze (s_2 ?_))
 obtain ⟨j3,e,K⟩:=p_1 J
 refine ZI (λa w=>Env 96 a [(1,ptr T 0),(34,vT j3)] ∧ M (Old B) B w [raw T (cV d h q y)]) ?_ ?_
 ·refine t_1 (Zm H R (Xw) λa H=>ZB (v:=d) H R TF R (at_0 I.ra0) λa H=>Yu H R s_3 (I.rd E) λa H=>Zn H R R R λa H=>Zd H R λa H=>?_)
  refine Yj (decide ((y.Keys.length : Int) < 1)) (λt=>?_) (λt=>?_)
  ·have e:=Zt e t
   refine k_s H t R R R λa H=>k_s H t R R R λa H=>k_s H t R R R λa H=>k_s H t R R R λa H=>ZH H (lkb R t) R λa H=>Zd H R λa H=>Zf H R R R dd_ λa H=>Zf H R R R dd_ λa H=>Zf H R R R dd_ λa H=>Zf H R R R dd_ λa H=>ZH H R R λa H=>Zd H R λa H=>?_
   refine Zf H R R R dd_ λa H=>Zf H R R R dd_ λa H=>Zf H R R R dd_ λa H=>Zf H R R R dd_ λa H=>ZH H R R λa H=>Zd H R λa H=>Zf H R R R dd_ λa H=>Zf H R R R dd_ λa H=>Zf H R R R dd_ λa H=>Zf H R R R dd_ λa H=>ZH H R R λa H=>Zj ?_
   obtain rfl:=o_1 e
   refine Zk ?_
   exact ⟨H.s,I⟩
  have e:=Zs e t
  refine Zi H (Zg H R (lkb R t)) dd_ R (Xw) λa H=>Zz (v:=d) H (Zg H R (lkb R t)) dd_ R TF R (at_0 I.ra0) λa H=>W2 H (Zg H R (lkb R t)) dd_ R s_3 (I.rd E) λa H=>Yc H (Zg H R (lkb R t)) dd_ R R R λa H=>Z2 H (lkb R t) R λa H=>Zd H R λa H=>?_
  refine Yj (decide ((y.Keys.length : Int) > 8)) (λu=>?_) (λu=>?_)
  ·have e:=Zt e u
   refine k_s H u R R R λa H=>k_s H u R R R λa H=>k_s H u R R R λa H=>k_s H u R R R λa H=>ZH H (lkb R u) R λa H=>Zd H R λa H=>Zf H R R R dd_ λa H=>Zf H R R R dd_ λa H=>Zf H R R R dd_ λa H=>Zf H R R R dd_ λa H=>ZH H R R λa H=>Zd H R λa H=>?_
   refine Zf H R R R dd_ λa H=>Zf H R R R dd_ λa H=>Zf H R R R dd_ λa H=>Zf H R R R dd_ λa H=>ZH H R R λa H=>Zj ?_
   obtain rfl:=o_1 e
   refine Zk ?_
   exact ⟨H.s,I⟩
  have e:=Zs e u
  refine Zi H (Zg H R (lkb R u)) dd_ R (Qw) λa H=>Zz (v:=(vI y.Next)) H (Zg H R (lkb R u)) dd_ R ty2 R (at_1 I.ra0) λa H=>?_
  obtain ⟨Z,aq,e⟩:=p_1 e
  refine Z8 H (Zg H R (lkb R u)) dd_ R Zfb (JJ _ y.Next 1 1000000 Z aq) ?_
  rintro v w a ⟨rfl,hK⟩ H
  have I:=I.keep hK
  refine KG H (Zg H R (lkb R u)) dd_ R λa H=>Z2 H (lkb R u) R λa H=>Zd H R λa H=>?_
  refine Yj (!Z) (λj=>?_) (λj=>?_)
  ·have e:=Zt e j
   refine k_s H j R R R λa H=>k_s H j R R R λa H=>k_s H j R R R λa H=>k_s H j R R R λa H=>ZH H (lkb R j) R λa H=>Zd H R λa H=>Zf H R R R dd_ λa H=>Zf H R R R dd_ λa H=>Zf H R R R dd_ λa H=>Zf H R R R dd_ λa H=>ZH H R R λa H=>Zj ?_
   obtain rfl:=o_1 e
   refine Zk ?_
   exact ⟨H.s,I⟩
  have e:=Zs e j
  refine Zi H (Zg H R (lkb R j)) dd_ R (Ye) λa H=>Zz (v:=h) H (Zg H R (lkb R j)) dd_ R Xr R (at_2 I.ra0) λa H=>W2 H (Zg H R (lkb R j)) dd_ R o_3 (I.rd z) λa H=>Yc H (Zg H R (lkb R j)) dd_ R R R λa H=>Z2 H (lkb R j) R λa H=>Zd H R λa H=>?_
  refine Yj (decide ((y.Records.length : Int) > 12)) (λk=>?_) (λk=>?_)
  ·have e:=Zt e k
   refine k_s H k R R R λa H=>k_s H k R R R λa H=>k_s H k R R R λa H=>k_s H k R R R λa H=>ZH H (lkb R k) R λa H=>Zj ?_
   obtain rfl:=o_1 e
   refine Zk ?_
   exact ⟨H.s,I⟩
  have e:=Zs e k
  refine Zi H (Zg H R (lkb R k)) dd_ R (XA) λa H=>Zz (v:=q) H (Zg H R (lkb R k)) dd_ R T3 R (at_3 I.ra0) λa H=>W2 H (Zg H R (lkb R k)) dd_ R p_4 (I.rd A) λa H=>Yc H (Zg H R (lkb R k)) dd_ R R R λa H=>Z2 H (lkb R k) R λa H=>Zj ?_
  obtain rfl:=o_1 e
  refine Zk ?_
  exact ⟨H.s,I⟩
 rintro a w ⟨H,I⟩
 refine c_if H R K ?_ ?_
 ·intro aa K
  refine Zb (Zc H R λa H=>Ze ?_)
  obtain rfl:=o_1 K
  exact p_3 (ZJ (kr1 H R R I.kept))
 intro aa K
 refine u_2 (ZA (Zb (Zc H R λa H=>Ze (s_2 (Zb (Zc H R λa H=>Ze ?_))))))
 obtain ⟨ar,ab,F⟩:=p_1 K
 refine ZV (λa w=>∃ ac : Unit,ar = Fl.nx ac ∧ Env 96 a [(1,ptr T 0)] ∧ M (Old B) B w [raw T (cV d h q y)]) ?_ ?_
 ·refine p_2 ?_
  refine ZP (λ(L : Int × Int) a w=>Env 96 a [(1,ptr T 0),(3,vI L.1),(4,vI L.2)] ∧ M (Old B) B w [raw T (cV d h q y)]) ab ⟨H.s,I⟩ ?_
  rintro L a w ⟨H,I⟩ a2 x W
  unfold Qd at x
  refine s_2 (Zb (Zd H R λa H=>Zm H R (Ye) λa H=>ZB (v:=h) H R Xr R (at_2 I.ra0) λa H=>Yu H R o_3 (I.rd z) λa H=>Zn H R R R λa H=>Ze ?_))
  refine c_if H R x ?_ ?_
  ·intro ad x
   refine u_2 (ZA (s_2 (p_2 (Zb (Zm H R (Ye) λa H=>ZB (v:=h) H R Xr R (at_2 I.ra0) λa H=>Zd H R λa H=>?_)))))
   obtain ⟨m,N,x⟩:=bix x
   refine Yp H R R o_3 Yk (I.rd z) N.1 λa H=>?_
   obtain ⟨a0,ae,af⟩:=Y2 z N.2 -- ^
   obtain ⟨O,U,rfl,ag,ah⟩:=Yl ae -- ^
   refine Zq H R Yk R (I.atk af (XM z N.2)) cq λa H=>Zv H I Yk λai w a I H=>Zl (seg:=cR O U m) (cs':=cR O U m) H I Za R R R Yk cq (q_1 cq cq) (ZD (cc1 (s_1 (m.Number : Int)) (cc1 (s_1 (m.Version : Int)) (cc1 (s_1 _) (cc1 (t_2 (I.rd ag)) (cc1 (t_2 (I.rd ah)) (cc1 (s_1 _) cc0))))))) (q_2 cq cq) λw a I H=>Ze (s_2 ?_)
   obtain ⟨au,b,C⟩:=p_1 x
   refine ZI (λa w=>Env 96 a [(1,ptr T 0),(4,vI L.2),(5,ptr ai 0),(79,vT au)] ∧ M (Old B) B w [raw ai (cR O U m),raw T (cV d h q y)]) ?_ ?_
   ·refine t_1 (Zm H R (VC) λa H=>ZB (v:=(vI m.Number)) H R ty2 R (at_0 I.ra0) λa H=>Zd H R λa H=>Zn H R R R λa H=>Zd H R λa H=>?_)
    refine Yj (decide (m.Number ≤ L.1)) (λf=>?_) (λf=>?_)
    ·have b:=Zt b f
     refine k_s H f R R R λa H=>k_s H f R R R λa H=>k_s H f R R R λa H=>k_s H f R R R λa H=>k_s H f R R R λa H=>ZH H (lkb R f) R λa H=>Zd H R λa H=>Zf H R R R dd_ λa H=>Zf H R R R dd_ λa H=>Zf H R R R dd_ λa H=>Zf H R R R dd_ λa H=>Zf H R R R dd_ λa H=>?_
     refine Zf H R R R dd_ λa H=>Zf H R R R dd_ λa H=>Zf H R R R dd_ λa H=>ZH H R R λa H=>Zd H R λa H=>Zf H R R R dd_ λa H=>Zf H R R R dd_ λa H=>Zf H R R R dd_ λa H=>Zf H R R R dd_ λa H=>ZH H R R λa H=>Zd H R λa H=>Zf H R R R dd_ λa H=>?_
     refine Zf H R R R dd_ λa H=>Zf H R R R dd_ λa H=>Zf H R R R dd_ λa H=>ZH H R R λa H=>Zj ?_
     obtain rfl:=o_1 b
     refine Zk ?_
     exact ⟨H.s,I⟩
    have b:=Zs b f
    refine Zi H (Zg H R (lkb R f)) dd_ R (VC) λa H=>Zz (v:=(vI m.Number)) H (Zg H R (lkb R f)) dd_ R ty2 R (at_0 I.ra0) λa H=>Zi H (Zg H R (lkb R f)) dd_ R (Qw) λa H=>Zz (v:=(vI y.Next)) H (Zg H R (lkb R f)) dd_ R ty2 R (at_1 I.ra1) λa H=>Yc H (Zg H R (lkb R f)) dd_ R R R λa H=>Z2 H (lkb R f) R λa H=>Zd H R λa H=>?_
    refine Yj (decide (m.Number ≥ y.Next)) (λc=>?_) (λc=>?_)
    ·have b:=Zt b c
     refine k_s H c R R R λa H=>k_s H c R R R λa H=>k_s H c R R R λa H=>k_s H c R R R λa H=>k_s H c R R R λa H=>k_s H c R R R λa H=>k_s H c R R R λa H=>k_s H c R R R λa H=>ZH H (lkb R c) R λa H=>Zd H R λa H=>Zf H R R R dd_ λa H=>Zf H R R R dd_ λa H=>?_
     refine Zf H R R R dd_ λa H=>Zf H R R R dd_ λa H=>ZH H R R λa H=>Zd H R λa H=>Zf H R R R dd_ λa H=>Zf H R R R dd_ λa H=>Zf H R R R dd_ λa H=>Zf H R R R dd_ λa H=>ZH H R R λa H=>Zj ?_
     obtain rfl:=o_1 b
     refine Zk ?_
     exact ⟨H.s,I⟩
    have b:=Zs b c
    refine Zi H (Zg H R (lkb R c)) dd_ R (TB) λa H=>Zz (v:=(vI m.Version)) H (Zg H R (lkb R c)) dd_ R ty2 R (at_1 I.ra0) λa H=>Zi H (Zg H R (lkb R c)) dd_ R (Xw) λa H=>Zz (v:=d) H (Zg H R (lkb R c)) dd_ R TF R (at_0 I.ra1) λa H=>W2 H (Zg H R (lkb R c)) dd_ R s_3 (I.rd E) λa H=>Yc H (Zg H R (lkb R c)) dd_ R R R λa H=>?_
    obtain ⟨aj,av,b⟩:=p_1 b
    refine Z8 H (Zg H R (lkb R c)) dd_ R Zfb (JJ _ m.Version 0 (wr ((y.Keys.length : Int) - 1)) aj av) ?_
    rintro v w a ⟨rfl,hK⟩ H
    have I:=I.keep hK
    refine KG H (Zg H R (lkb R c)) dd_ R λa H=>Z2 H (lkb R c) R λa H=>Zd H R λa H=>?_
    refine Yj (!aj) (λn=>?_) (λn=>?_)
    ·have b:=Zt b n
     refine k_s H n R R R λa H=>k_s H n R R R λa H=>k_s H n R R R λa H=>k_s H n R R R λa H=>ZH H (lkb R n) R λa H=>Zd H R λa H=>Zf H R R R dd_ λa H=>Zf H R R R dd_ λa H=>Zf H R R R dd_ λa H=>Zf H R R R dd_ λa H=>ZH H R R λa H=>Zj ?_
     obtain rfl:=o_1 b
     refine Zk ?_
     exact ⟨H.s,I⟩
    have b:=Zs b n
    refine Zi H (Zg H R (lkb R n)) dd_ R (Ka) λa H=>Zz (v:=O) H (Zg H R (lkb R n)) dd_ R Wo R (at_3 I.ra0) λa H=>W2 H (Zg H R (lkb R n)) dd_ R o_2 (I.rd ag) λa H=>Yc H (Zg H R (lkb R n)) dd_ R R R λa H=>Z2 H (lkb R n) R λa H=>Zd H R λa H=>?_
    refine Yj (decide ((m.Label.length : Int) > 32)) (λo=>?_) (λo=>?_)
    ·have b:=Zt b o
     refine k_s H o R R R λa H=>k_s H o R R R λa H=>k_s H o R R R λa H=>k_s H o R R R λa H=>ZH H (lkb R o) R λa H=>Zj ?_
     obtain rfl:=o_1 b
     refine Zk ?_
     exact ⟨H.s,I⟩
    have b:=Zs b o
    refine Zi H (Zg H R (lkb R o)) dd_ R (Qh) λa H=>Zz (v:=U) H (Zg H R (lkb R o)) dd_ R Wo R (at_4 I.ra0) λa H=>W2 H (Zg H R (lkb R o)) dd_ R o_2 (I.rd ah) λa H=>Yc H (Zg H R (lkb R o)) dd_ R R R λa H=>Z2 H (lkb R o) R λa H=>Zj ?_
    obtain rfl:=o_1 b
    refine Zk ?_
    exact ⟨H.s,I⟩
   rintro a w ⟨H,I⟩
   refine c_if H R C ?_ ?_
   ·intro ak C
    refine Zb (Zc H R λa H=>Ze ?_)
    obtain rfl:=W _ (ois C)
    obtain rfl:=o_1 F
    exact p_3 (ZJ (Xa (ZJ (ZJ (Xa (ZJ (ZJ (kr1 H R R I.kept))))))))
   intro ak C
   refine u_2 (ZA (t_1 (Zm H R (VC) λa H=>ZB (v:=(vI m.Number)) H R ty2 R (at_0 I.ra0) λa H=>Zc H R λa H=>Zj (Yy (ZA (t_1 (Zd H R λa H=>Zn H R R R λa H=>Zc H R λa H=>Zj (Zk ?_))))))))
   have I:=M.fst (l:=[_]) I.pl1
   exact ⟨_,ois C,H.s,I⟩
  intro ad x
  refine s_4 (Zu (Zu (YE ?_)))
  obtain rfl:=W _ (ois x)
  refine Zk ?_
  exact ⟨(),R,H.s,I⟩
 rintro a w ⟨ac,ht,H,I⟩
 subst ht
 have F:=KT F
 refine ZA (s_2 (Zb (Zc H R λa H=>Ze ?_)))
 obtain ⟨aw,al,G⟩:=p_1 F
 refine ZV (λa w=>∃ am : Unit,aw = Fl.nx am ∧ Env 96 a [] ∧ M (Old B) B w []) ?_ ?_
 ·refine p_2 ?_
  refine ZP (λ(an : Int) a w=>Env 96 a [(1,ptr T 0),(6,vI an)] ∧ M (Old B) B w [raw T (cV d h q y)]) al ⟨H.s,I⟩ ?_
  rintro an a w ⟨H,I⟩ a3 i X
  unfold Ko at i
  refine s_2 (Zb (Zd H R λa H=>Zm H R (XA) λa H=>ZB (v:=q) H R T3 R (at_3 I.ra0) λa H=>Yu H R p_4 (I.rd A) λa H=>Zn H R R R λa H=>Ze ?_))
  refine c_if H R i ?_ ?_
  ·intro ao i
   refine u_2 (ZA (s_2 (p_2 (Zb (Zm H R (XA) λa H=>ZB (v:=q) H R T3 R (at_3 I.ra0) λa H=>Zd H R λa H=>?_)))))
   obtain ⟨ax,Y,i⟩:=bix i
   refine Yp H R R p_4 Xn (I.rd A) Y.1 λa H=>Zq H R Xn R (YG (I.rd A) Y.2) cq λa H=>?_
   obtain ⟨ay,az,i⟩:=p_1 i
   refine c_k H I R (cbm func173) (Be _ ax ay az) λw a I H=>?_
   refine Kp H R λa H=>Ze ?_
   refine c_if H R i ?_ ?_
   ·intro ap i
    refine Zb (Zc H R λa H=>Ze ?_)
    obtain rfl:=X _ (ois i)
    obtain rfl:=o_1 G
    exact p_3 (Xa (ZJ (ZJ (Xa (ZJ (ZJ (kr1 H R R I.kept)))))))
   intro ap i
   refine u_2 (Yy (ZA (t_1 (Zd H R λa H=>Zn H R R R λa H=>Zc H R λa H=>Zj (Zk ?_)))))
   exact ⟨_,ois i,H.s,I⟩
  intro ao i
  refine s_4 (Zu (Zu (YE ?_)))
  obtain rfl:=X _ (ois i)
  refine Zk ?_
  have I:=M.fst (l:=[]) I
  exact ⟨(),R,H.sub trivial,I⟩
 rintro a w ⟨am,ht,H,I⟩
 subst ht
 have G:=KT G
 refine ZA (Zb (Zc H R λa H=>Ze ?_))
 obtain rfl:=o_1 G
 exact p_3 (kr1 H R R I.kept)
def QG (f : GVault) (c : List GRecord × Int) : Option (Fl (List GRecord × Int) (List GRecord)) :=
 if decide (c.2 < (f.Records.length : Int)) then ((idx f.Records c.2).bind λb=>(XI b.Label).bind λd=>(XI b.Body).bind λe=>(app 112 c.1 ([(⟨b.Number,b.Version,b.Nonce,d,e,b.Tag⟩ : GRecord)] : List GRecord)).bind λh=>some (Fl.nx ((c.1 ++ ([(⟨b.Number,b.Version,b.Nonce,d,e,b.Tag⟩ : GRecord)] : List GRecord)),wr (c.2 + 1)))) else (some (Fl.ex c.1))
def VS (b : GVault) : Option (GVault) :=
 (app 16 ([] : List V16) b.Keys).bind λe=>(app 48 ([] : List GEvent) b.Events).bind λd=>(ZQ (QG b) ([],0)).bind λc=>some (⟨([] : List V16) ++ b.Keys,b.Next,c,([] : List GEvent) ++ b.Events,b.Head⟩ : GVault)
theorem Jj (A : World) (i : GVault) (m : Value) (O : Ro A i.Keys [m]) (n : Value) (q : Ro A i.Records [n]) (o : Value) (T : Ro A i.Events [o]) (r : GVault) (J : VS i = some r) :
  Calls prog 151 [vcV m n o i].toArray A (e_r λv w'=>(∃ y1 y2 y3 : Value,v = (vcV y1 y2 y3 r) ∧ Fr A w' [osl NoB r.Keys y1,osl NoB r.Records y2,osl NoB r.Events y3] ∧ Kept (Old A) A w')):=by
 refine ce func151 ?_
 intro a H
 have I:=M.start A
 unfold VS at J
 refine Zb (Z1 (cs:=cV m n o i) H I Za ld R R λb1 w a I H=>Zv H I ZG λX w a I H=>Ze (s_2 ?_))
 obtain ⟨l8,e9,J⟩:=p_1 J
 obtain ⟨a7,aq,J⟩:=p_1 J
 refine Ys (its:=[raw X xh,raw b1 (cV m n o i)]) (mk:=([mkN [(3,λv=>osl NoB ((([] : List V16) ++ i.Keys) : List V16) v),(0,λv=>osl NoB (([] : List V16) : List V16) v)],mkN [(9,λv=>osl NoB ((xB ++ i.Events) : List GEvent) v),(6,λv=>osl NoB (xB : List GEvent) v)],mkO 13 (λv=>Wk v xh)] : Mk)) [6,7,8,9,10,11,12,13,14,15,16,17,18,3] Yx R R dd_ R H (λu=>M.qE (M.qE (M.qE (M.q0 I.drew u) emO) emN) emN) (q_t ?_ (qsP (λz=>Zi z.E Za ld R (Xw) (kr0 R)) (qsP (λz=>Zz (v:=m) z.E Za ld R TF R (at_0 (z.M.ra1)) (kr0 R)) (q_t ?_ (qsP (λz=>Zi z.E Za ld R (Qw) (kr0 R)) (qsP (λz=>Zz (v:=(vI i.Next)) z.E Za ld R ty2 R (at_1 (z.M.ra1)) (kr0 R)) (q_t ?_ (qsP (λz=>Zi z.E Za ld R (XA) (kr0 R)) (qsP (λz=>Zz (v:=o) z.E Za ld R T3 R (at_3 (z.M.ra1)) (kr0 R)) (q_t ?_ (qsP (λz=>Zi z.E Za ld R (J1) (kr0 R)) (qsP (λz=>Zx z.E Za ld R ZW R (at_4 (z.M.ra1)) (u_1 _) (kr0 R)) (qsD (ds:=[3,9]) (f:=λus=>(Value.agg (cV (us.getD 0 undef) xd (us.getD 1 undef) i).toArray)) ?_ (q_t ?_ qs0)))))))))))))) ?_
 ·intro a w b D z
  have H:=z.E
  have hD : D 0 = false:=z.F
  have I:=z.M
  refine ZM (xs:=[]) (l:=([] : List V16)) (vs:=[]) H I Za ld R R s_3 ZL R dd_ R λu6 w a I H=>?_
  have Y : D 3 = false:=VE (j:=3) (k:=0) z.c R R R hD
  exact ⟨_,_,R,H,M.qPut (mk1:=[]) (mk2:=[_,_]) I R (zu (A5 Y (A5 hD AG))) (Ht (l:=[_]) (A5 Y AG)),trivial⟩
 ·intro a w b D z
  have H:=z.E
  have hD : D 3 = false:=z.F
  have d0 : D 0 = true:=z.p 0 _ R R
  have I:=(z.M.chnF (pre:=[_,_]) hD).chnT (pre:=[_,_]) d0
  obtain ⟨ar,rfl⟩:=ZU e9
  have I:=I.pl2
  exact ZX H I Za ld R R (I.rd O) s_3 ZL R dd_ ar λa9 w a I H=>⟨_,_,R,H,M.qTogS (mk1:=[]) (mk2:=[_,_]) I R (Ht (l:=[]) AG),trivial⟩
 ·intro a w b D z
  have H:=z.E
  have hD : D 6 = false:=z.F
  have I:=z.M
  refine ZM (xs:=[]) (l:=xB) (vs:=[]) H I Za ld R R p_4 Xn R dd_ R λba w a I H=>?_
  have Z : D 9 = false:=VE (j:=9) (k:=0) z.c R R R hD
  exact ⟨_,_,R,H,M.qPut (mk1:=[_]) (mk2:=[_]) I R (zu (A5 Z (A5 hD AG))) (Ht (l:=[_]) (A5 Z AG)),trivial⟩
 ·intro a w b D z
  have H:=z.E
  have hD : D 9 = false:=z.F
  have d6 : D 6 = true:=z.p 0 _ R R
  have I:=(z.M.chnF (pre:=[_,_,_]) hD).chnT (pre:=[_,_,_]) d6
  obtain ⟨au,rfl⟩:=ZU aq
  have I:=I.pl3
  exact ZX H I Za ld R R (I.rd T) p_4 Xn R dd_ au λbc w a I H=>⟨_,_,R,H,M.qTogS (mk1:=[_]) (mk2:=[_]) I R (Ht (l:=[]) AG),trivial⟩
 ·intro a w b D z
  have H:=z.E
  have d3 : D 3 = true:=z.p 0 _ R R
  have d9 : D 9 = true:=z.p 2 _ R R
  have I:=(z.M.chnT (pre:=[_,_]) d3).chnT (pre:=[_,_,_]) d9
  exact Yi (parts:=[(0,.tmp 9),(1,.tmp 11),(3,.tmp 15),(4,.tmp 17)]) (vs:=[(0,b 3),(1,vI i.Next),(3,b 9),(4,Value.agg (enc i.Head).toArray)]) (cs:=cV (b 3) xd (b 9) i) H Za ld R R ZG Ju (Ya (pre:=[]) (seg:=[xd]) (seg':=[b 3]) (post:=[[vI 0],[xd],[xd],enc xb]) R cl0 R R (Z5 (I.sl2)) (Ya (pre:=[[b 3]]) (seg:=[vI 0]) (seg':=[vI i.Next]) (post:=[[xd],[xd],enc xb]) R ck R R R (Ya (pre:=[[b 3],[vI i.Next],[xd]]) (seg:=[xd]) (seg':=[b 9]) (post:=[enc xb]) R ck R R (Z5 (I.sl3)) (Ya (pre:=[[b 3],[vI i.Next],[xd],[b 9]]) (seg:=enc xb) (seg':=enc i.Head) (post:=[]) R ck (u_1 _) (u_1 _) R YF)))) λa H=>⟨p_5 _ _,AF d3 (AF d9 yn),_,R,H⟩
 ·intro a w b D z
  have H:=z.E
  have hD : D 13 = false:=z.F
  have I:=z.M
  refine Zv H I ZG λbd w a I H=>?_
  have I:=I.pack1 (it:=Wk _ xh) (λw w' fp ⟨b',e,k⟩ hb=>⟨b',e,YN w w' fp k hb⟩) (λfp k=>⟨_,R,k⟩)
  exact ⟨_,_,R,H,M.qFill (mk1:=[_,_]) (mk2:=[]) (f:=λv=>Wk v xh) I R hD,trivial⟩
 intro a w b D H I hG B
 have d3:=B 3 dd_
 have d9:=B 9 dd_
 have av:=B 13 dd_
 have I:=(((I.chnT (pre:=[_,_]) d3).chnT (pre:=[_,_,_]) d9).sure (pre:=[_,_,_,_]) av).pl
 obtain ⟨_,⟨C,aa,_⟩,_⟩:=I.head
 have I:=I.pack1 YN (it:=raw C xh) (λfp ⟨b2,e2,k2⟩=>by rw [aa] at e2; simp [ptr] at e2; subst e2; exact k2)
 have H:=H.setq (t:=3) R aa
 refine Zl (seg:=cV (b 3) xd (b 9) i) (cs':=cV (b 3) xd (b 9) i) H I Za R R R ZG cq (q_1 cq cq) (ZD (cc1 (t_2 (I.sl3)) (cc1 (s_1 (i.Next : Int)) (cc1 ZZ (cc1 (t_2 (I.sl4)) (cc1 (s_1 _) cc0)))))) (q_2 cq cq) λw a I H=>Zj (ZA (s_2 (Zb (Zc H R λa H=>Ze ?_))))
 obtain ⟨ax,ab,ac⟩:=p_1 J
 refine ZV (λa w=>∃ x : Value,Env 46 a [(2,ptr X 0),(3,ptr C 0)] ∧ M (Old A) A w [raw C (cV (b 3) x (b 9) i),raw X xh,osl NoB ((([] : List V16) ++ i.Keys) : List V16) (b 3),osl NoB ((xB ++ i.Events) : List GEvent) (b 9),osl NoB ax x]) ?_ ?_
 ·refine p_2 ?_
  have I:=(((((M.nilS (α:=GRecord) NoB noB I).pl5).pl5).pl5).pl5).pl5
  refine ZP (λ(U : List GRecord × Int) a w=>∃ G : Value,Env 46 a [(1,ptr b1 0),(2,ptr X 0),(3,ptr C 0),(4,vI U.2)] ∧ M (Old A) A w [raw C (cV (b 3) G (b 9) i),raw X xh,raw b1 (cV m n o i),osl NoB ((([] : List V16) ++ i.Keys) : List V16) (b 3),osl NoB ((xB ++ i.Events) : List GEvent) (b 9),osl NoB U.1 G]) ab ⟨xd,H.s,I⟩ ?_
  rintro U a w ⟨G,H,I⟩ bg h ad
  unfold QG at h
  refine s_2 (Zb (Zd H R λa H=>Zm H R (Ye) λa H=>ZB (v:=n) H R Xr R (at_2 I.ra2) λa H=>Yu H R o_3 (I.rd q) λa H=>Zn H R R R λa H=>Ze ?_))
  refine c_if H R h ?_ ?_
  ·intro ae h
   refine u_2 (ZA (s_2 (p_2 (Zb (Zm H R (Ye) λa H=>ZB (v:=n) H R Xr R (at_2 I.ra2) λa H=>Zd H R λa H=>?_)))))
   obtain ⟨d,K,h⟩:=bix h
   refine Yp H R R o_3 Yk (I.rd q) K.1 λa H=>?_
   obtain ⟨a5,af,ag⟩:=Y2 q K.2 -- ^
   obtain ⟨L,N,rfl,ah,ai⟩:=Yl af -- ^
   refine Zq H R Yk R (I.atk ag (XM q K.2)) cq λa H=>Zv H I Yk λbh w a I H=>Zl (seg:=cR L N d) (cs':=cR L N d) H I Za R R R Yk cq (q_1 cq cq) (ZD (cc1 (s_1 (d.Number : Int)) (cc1 (s_1 (d.Version : Int)) (cc1 (s_1 _) (cc1 (t_2 (I.rd ah)) (cc1 (t_2 (I.rd ai)) (cc1 (s_1 _) cc0))))))) (q_2 cq cq) λw a I H=>Ze (Zb (Zm H R (Ka) λa H=>ZB (v:=L) H R Wo R (at_3 I.ra0) λa H=>?_))
   obtain ⟨aj,ay,h⟩:=p_1 h
   refine Zp H R cb96 (QT _ d.Label L (I.rdo ah) aj ay) ?_
   rintro y w a ⟨_,rfl,hFr,hK⟩ H
   have I:=I.add hK hFr
   refine Zm H R (Ka) λa H=>?_
   have I:=I.pl1
   refine Zl (seg:=[y]) H I Za R R (Z5 (I.sl1)) Wo R (Xf (pre:=[[vI d.Number],[vI d.Version],enc d.Nonce]) ck R) (t_2 (I.sl1)) (Ym (pre:=[[vI d.Number],[vI d.Version],enc d.Nonce]) ck R) λw a I H=>Ze (Zb (Zm H R (Qh) λa H=>ZB (v:=N) H R Wo R (at_4 I.ra0) λa H=>?_))
   obtain ⟨ak,az,h⟩:=p_1 h
   refine Zp H R cb96 (QT _ d.Body N (I.rdo ai) ak az) ?_
   rintro W w a ⟨_,rfl,hFr,hK⟩ H
   have I:=I.add hK hFr
   refine Zm H R (Qh) λa H=>?_
   have I:=I.pl1
   refine Zl (seg:=[W]) H I Za R R (Z5 (I.sl1)) Wo R (ft_4 R) (t_2 (I.sl1)) (sp_4 R) λw a I H=>Ze (t_1 (Zm H R (Ye) λa H=>ZB (v:=G) H R Xr R (at_2 I.ra3) λa H=>Zq H R Yk R I.ra0 cq λa H=>?_))
   have I:=I.pl1.pl2
   have I:=I.pack2 (it:=own NoB (⟨d.Number,d.Version,d.Nonce,aj,ak,d.Tag⟩ : GRecord) (cR y W d)) (Wa noB) (λf0 f1 q0 q1=>(JU (X5.sat q0) (X5.sat q1) (by simp)))
   refine KR (xs:=[.tmp 41]) (seg:=cR y W d) H I noB Za ld R R o_3 Yk R dd_ λbi w a I H=>?_
   obtain ⟨bj,a0,h⟩:=p_1 h
   obtain ⟨a1,rfl⟩:=ZU a0
   have I:=I.pl7
   refine Q4 H I noB Za ld R R o_3 Yk R dd_ a1 λal w a I H=>Zm H R (Ye) λa H=>?_
   have I:=I.pl2
   refine Zl (seg:=[al]) H I Za R R (Z5 (I.sl1)) Xr R (ft_2 R) (t_2 (I.sl1)) (sp_2 R) λw a I H=>Zj (Yy (ZA (t_1 (Zd H R λa H=>Zn H R R R λa H=>Zc H R λa H=>Zj (Zk ?_)))))
   have I:=M.fst (l:=[_,_,_,_,_,_]) I.pl1.pl6.pl6.pl6.pl6.pl5
   exact ⟨_,ois h,al,H.s,I⟩
  intro ae h
  refine s_4 (Zu (Zu (YE ?_)))
  obtain rfl:=ad _ (ois h)
  refine Zk ?_
  have I:=M.fst (l:=[_,_,_,_,_]) I.pl5.pl5.pl5.pl4.pl4
  exact ⟨G,H.s,I⟩
 rintro a w ⟨x,H,I⟩
 refine ZA (Zb (Zq H R ZG R I.ra0 cq λa H=>?_))
 have I:=I.pl1
 refine Zl (seg:=cV (b 3) x (b 9) i) (cs':=cV (b 3) x (b 9) i) H I Za R R R ZG cq (q_1 cq cq) (ZD (cc1 (t_2 (I.sl2)) (cc1 (s_1 (i.Next : Int)) (cc1 (t_2 (I.sl4)) (cc1 (t_2 (I.sl3)) (cc1 (s_1 _) cc0)))))) (q_2 cq cq) λw a I H=>Ze ?_
 obtain rfl:=o_1 ac
 have am : Z7 prog _ _ (.cell 2 79) _:=ZE H R ZG R I.ra0 cq R
 have I:=M.fst (l:=[_,_,_]) I.pl3.pl4.pl4
 exact p_3 (ZY H R am ⟨_,R,b 3,x,b 9,R,I.outF (ZK (ZK (ZK Yd))),I.kept⟩)
def XP (b : GVault) (c : Int) (d : Int) (e : V32) : Option (GVault) :=
 (app 48 b.Events ([(⟨c,d,e⟩ : GEvent)] : List GEvent)).bind λh=>(W6 (b.Events ++ ([(⟨c,d,e⟩ : GEvent)] : List GEvent))).bind λf=>some (⟨b.Keys,b.Next,b.Records,b.Events ++ ([(⟨c,d,e⟩ : GEvent)] : List GEvent),f⟩ : GVault)
theorem K0 (St : Nat → Prop) (W t : World) (its : List Item) (e : GVault) (b : Value) (c : Value) (f : Value) (h : Int) (i : Int) (j : V32) (I : M St W t (osl NoB e.Keys b :: osl NoB e.Records c :: osl NoB e.Events f :: its)) (r : GVault) (J : XP e h i j = some r) :
  Calls prog 154 [vcV b c f e,vI h,vI i,Value.agg (enc j).toArray].toArray t (e_r λv w'=>(∃ u x y : Value,v = (vcV u x y r) ∧ M St W w' (osl NoB r.Keys u :: osl NoB r.Records x :: osl NoB r.Events y :: its))):=by
 refine ce func154 ?_
 intro a H
 unfold XP at J
 refine Zb (Z1 (cs:=cV b c f e) H I Za ld R R λz w a I H=>Z1 (cs:=enc j) H I Za ld R R λA w a I H=>Zv H I ZG λB w a I H=>Ze (Zb (Zm H R (XA) λa H=>ZB (v:=f) H R T3 R (at_3 I.ra2) λa H=>Zd H R λa H=>Zd H R λa H=>Zq H R ZW R I.ra1 (u_1 _) λa H=>Yi (parts:=[(0,.tmp 11),(1,.tmp 12),(2,.tmp 13)]) (vs:=[(0,vI h),(1,vI i),(2,Value.agg (enc j).toArray)]) (cs:=cat [[vI h],[vI i],enc j]) H Za ld R R Xn Zap (Ya (pre:=[]) (seg:=[vI 0]) (seg':=[vI h]) (post:=[[vI 0],enc xb]) R cl0 R R R (Ya (pre:=[[vI h]]) (seg:=[vI 0]) (seg':=[vI i]) (post:=[enc xb]) R ck R R R (Ya (pre:=[[vI h],[vI i]]) (seg:=enc xb) (seg':=enc j) (post:=[]) R ck (u_1 _) (u_1 _) R YF))) λa H=>ZM (xs:=[.tmp 14]) (l:=([(⟨h,i,j⟩ : GEvent)] : List GEvent)) (vs:=[Value.agg (enc (⟨h,i,j⟩ : GEvent)).toArray]) H I Za ld R R p_4 Xn R dd_ R λC w a I H=>?_)))
 obtain ⟨E,n,J⟩:=p_1 J
 obtain ⟨o,rfl⟩:=ZU n
 have I:=I.pl6
 refine ZX H I Za ld R R (I.sl1) p_4 Xn R dd_ o λd w a I H=>Zm H R (XA) λa H=>?_
 have I:=I.pl4
 refine Zl (seg:=[d]) H I Za R R (Z5 (I.sl1)) T3 R (Xf (pre:=[[b],[vI e.Next],[c]]) ck R) (t_2 (I.sl1)) (Ym (pre:=[[b],[vI e.Next],[c]]) ck R) λw a I H=>Ze (Zb (Zm H R (XA) λa H=>ZB (v:=d) H R T3 R (at_3 I.ra0) λa H=>?_))
 obtain ⟨k,q,J⟩:=p_1 J
 refine c_k H I R Ze6 (K3 _ (e.Events ++ ([(⟨h,i,j⟩ : GEvent)] : List GEvent)) d (I.sl1) k q) λw a I H=>?_
 refine Zm H R (J1) λa H=>Zl (seg:=enc k) H I Za R R R ZW (u_1 _) (ft_4 flq) (s_1 _) (sp_4 flq) λw a I H=>Ze (Zb (Zq H R ZG R I.ra0 cq λa H=>?_))
 have I:=I.pl3
 refine Zl (seg:=cat [[b],[vI e.Next],[c],[d],enc k]) (cs':=cat [[b],[vI e.Next],[c],[d],enc k]) H I Za R R R ZG cq (q_1 cq cq) (ZD (cc1 (t_2 (I.sl5)) (cc1 (s_1 (e.Next : Int)) (cc1 (t_2 (I.sl6)) (cc1 (t_2 (I.sl2)) (cc1 (s_1 _) cc0)))))) (q_2 cq cq) λw a I H=>Ze ?_
 obtain rfl:=o_1 J
 have m : Z7 prog _ _ (.cell 8 79) _:=ZE H R ZG R I.ra0 cq R
 have I:=((((I.pl2.pl6.pl6.pl6).drop.pl5).drop.pl4).drop.pl3).drop
 exact p_3 (ZY H R m ⟨_,R,b,c,d,R,I⟩)
def UV (e : GVault) (f : V16) (b : Int) : Option (Fl Int (Fl Unit (GVault × Int))) :=
 if decide (b < (e.Keys.length : Int)) then (((idx e.Keys b).bind λc=>some (decide (c = f)) : Option (Bool)).bind λd=>if d then (some (Fl.ex (Fl.ex ((⟨[],0,[],[],Vector.replicate 32 (0 : UInt8)⟩ : GVault),5)))) else (some (Fl.nx (wr (b + 1))))) else (some (Fl.ex (Fl.nx ())))
def V7 (c : GVault) (d : V16) : Option (GVault × Int) :=
 (X9 c).bind λi=>if !i then (some ((⟨[],0,[],[],Vector.replicate 32 (0 : UInt8)⟩ : GVault),1)) else ((ZQ (UV c d) 0).bind λe=>e.el (λj=>(if (c.Keys.length : Int) == 8 then (some true) else (some ((c.Events.length : Int) == 60)) : Option (Bool)).bind λf=>if f then (some ((⟨[],0,[],[],Vector.replicate 32 (0 : UInt8)⟩ : GVault),3)) else ((VS c).bind λb=>(app 16 b.Keys ([d] : List V16)).bind λk=>(XP (⟨b.Keys ++ ([d] : List V16),b.Next,b.Records,b.Events,b.Head⟩ : GVault) 3 (c.Keys.length : Int) (Vector.replicate 32 (0 : UInt8))).bind λh=>some (h,0))) (λr=>some r))
theorem HL (n : World) (o : GVault) (b : Value) (h : Ro n o.Keys [b]) (e : Value) (x : Ro n o.Records [e]) (f : Value) (q : Ro n o.Events [f]) (A : V16) (r : GVault × Int) (J : V7 o A = some r) :
  Calls prog 62 [vcV b e f o,Value.agg (enc A).toArray].toArray n (e_r λv w'=>(∃ y1 y2 y3 : Value,v = (Value.tuple [vcV y1 y2 y3 r.1,vI r.2].toArray) ∧ Fr n w' [osl NoB r.1.Keys y1,osl NoB r.1.Records y2,osl NoB r.1.Events y3] ∧ Kept (Old n) n w')):=by
 refine ce func62 ?_
 intro a H
 have I:=M.start n
 unfold V7 at J
 refine Zb (Z1 (cs:=cV b e f o) H I Za ld R R λC w a I H=>Z1 (cs:=enc A) H I Za ld R R λF w a I H=>Zv H I ZG λG w a I H=>Zc H R λa H=>Ze (s_2 (Zb (Zq H R ZG R I.ra2 cq λa H=>?_))))
 obtain ⟨r7,e8,J⟩:=p_1 J
 refine c_k H I R yN (UG _ o b (I.rdo h) e (I.rdo x) f (I.rdo q) r7 e8) λw a I H=>?_
 refine Kp H R λa H=>Ze ?_
 refine c_if H R J ?_ ?_
 ·intro aj J
  refine Zb (Yi (parts:=[]) (vs:=[]) (cs:=cat xa) H Za ld R R ZG Ju YF λa H=>Zl (seg:=cat xa) (cs':=cat xa) H I Za R R R ZG cq (q_1 cq cq) (ZD (cc1 ZZ (cc1 (s_1 xi) (cc1 ZZ (cc1 ZZ (cc1 (s_1 _) cc0)))))) (q_2 cq cq) λw a I H=>Zc H R λa H=>Ze ?_)
  have I:=M.nilS (α:=GEvent) NoB noB (M.nilS (α:=GRecord) NoB noB (M.nilS (α:=V16) NoB noB I))
  obtain rfl:=o_1 J
  have Z : Z7 prog _ _ (.cell 4 79) _:=ZE H R ZG R I.ra3 cq R
  have I:=M.fst (l:=[_,_,_]) I.pl1.pl2
  exact p_3 (ZJ (Yq H R Z (Zy H R) ⟨_,R,xd,xd,xd,R,I.outF (ZK (ZK (ZK Yd))),I.kept⟩))
 intro aj J
 refine u_2 (ZA (s_2 (Zb (Zc H R λa H=>Ze ?_))))
 obtain ⟨ak,aa,t⟩:=p_1 J
 refine ZV (λa w=>∃ ab : Unit,ak = Fl.nx ab ∧ Env 52 a [(2,ptr C 0),(3,ptr F 0),(4,ptr G 0)] ∧ M (Old n) n w [raw G xh,raw F (enc A),raw C (cV b e f o)]) ?_ ?_
 ·refine p_2 ?_
  refine ZP (λ(N : Int) a w=>Env 52 a [(2,ptr C 0),(3,ptr F 0),(4,ptr G 0),(6,vI N)] ∧ M (Old n) n w [raw G xh,raw F (enc A),raw C (cV b e f o)]) aa ⟨H.s,I⟩ ?_
  rintro N a w ⟨H,I⟩ ay i K
  unfold UV at i
  refine s_2 (Zb (Zd H R λa H=>Zm H R (Xw) λa H=>ZB (v:=b) H R TF R (at_0 I.ra2) λa H=>Yu H R s_3 (I.rd h) λa H=>Zn H R R R λa H=>Ze ?_))
  refine c_if H R i ?_ ?_
  ·intro ac i
   refine u_2 (ZA (s_2 (p_2 ?_)))
   obtain ⟨al,y,m⟩:=p_1 i
   refine ZI (λa w=>Env 52 a [(2,ptr C 0),(3,ptr F 0),(4,ptr G 0),(6,vI N),(25,vT al)] ∧ M (Old n) n w [raw G xh,raw F (enc A),raw C (cV b e f o)]) ?_ ?_
   ·obtain ⟨az,L,y⟩:=bix y
    refine Z9 [19,20,21,22,23,24,25] Yx R R dd_ R H I (qsP (λz=>Zi z.E Za ld R (Xw) (kr0 R)) (qsP (λz=>Zz (v:=b) z.E Za ld R TF R (at_0 (z.M.ra2)) (kr0 R)) (q_m (λ_=>R) (qsP (λz=>Z6 z.E Za ld R R s_3 ZL (z.M.rd h) L.1 (kr0 R)) (qsP (λz=>Zx z.E Za ld R ZL R (YG (z.M.rd h) L.2) (u_1 _) (kr0 R)) (qsP (λz=>Zx z.E Za ld R ZL R (z.M.ra1) (u_1 _) (kr0 R)) (qsP (λz=>qK z.E Za ld R R (XX o_4 ty5 R false R dd_ (Xp u_3)) dd_ (by kernel_rfl) (kr0 R)) qs0))))))) ?_
    ·intro a w u H I
     refine Zj ?_
     obtain rfl:=o_1 y
     refine Zk ?_
     exact ⟨H.s,I⟩
   rintro a w ⟨H,I⟩
   refine c_if H R m ?_ ?_
   ·intro ad m
    refine Zb (Yi (parts:=[]) (vs:=[]) (cs:=cat xa) H Za ld R R ZG Ju YF λa H=>Zl (seg:=cat xa) (cs':=cat xa) H I Za R R R ZG cq (q_1 cq cq) (ZD (cc1 ZZ (cc1 (s_1 xi) (cc1 ZZ (cc1 ZZ (cc1 (s_1 _) cc0)))))) (q_2 cq cq) λw a I H=>Zc H R λa H=>Ze ?_)
    have I:=M.nilS (α:=GEvent) NoB noB (M.nilS (α:=GRecord) NoB noB (M.nilS (α:=V16) NoB noB I))
    obtain rfl:=K _ (ois m)
    obtain rfl:=o_1 t
    have ae : Z7 prog _ _ (.cell 4 79) _:=ZE H R ZG R I.ra3 cq R
    have I:=M.fst (l:=[_,_,_]) I.pl1.pl2
    exact p_3 (Xa (ZJ (ZJ (Xa (ZJ (ZJ (Yq H R ae (Zy H R) ⟨_,R,xd,xd,xd,R,I.outF (ZK (ZK (ZK Yd))),I.kept⟩)))))))
   intro ad m
   refine u_2 (Yy (ZA (t_1 (Zd H R λa H=>Zn H R R R λa H=>Zc H R λa H=>Zj (Zk ?_)))))
   exact ⟨_,ois m,H.s,I⟩
  intro ac i
  refine s_4 (Zu (Zu (YE ?_)))
  obtain rfl:=K _ (ois i)
  refine Zk ?_
  exact ⟨(),R,H.s,I⟩
 rintro a w ⟨ab,ht,H,I⟩
 subst ht
 have t:=KT t
 refine ZA (s_2 ?_)
 obtain ⟨am,j,d⟩:=p_1 t
 refine ZI (λa w=>Env 52 a [(2,ptr C 0),(3,ptr F 0),(4,ptr G 0),(36,vT am)] ∧ M (Old n) n w [raw G xh,raw F (enc A),raw C (cV b e f o)]) ?_ ?_
 ·refine t_1 (Zm H R (Xw) λa H=>ZB (v:=b) H R TF R (at_0 I.ra2) λa H=>Yu H R s_3 (I.rd h) λa H=>Zn H R R R λa H=>Zd H R λa H=>?_)
  refine Yj ((o.Keys.length : Int) == 8) (λc=>?_) (λc=>?_)
  ·have j:=Zt j c
   refine k_s H c R R R λa H=>k_s H c R R R λa H=>k_s H c R R R λa H=>k_s H c R R R λa H=>ZH H (lkb R c) R λa H=>Zj ?_
   obtain rfl:=o_1 j
   refine Zk ?_
   exact ⟨H.s,I⟩
  have j:=Zs j c
  refine Zi H (Zg H R (lkb R c)) dd_ R (XA) λa H=>Zz (v:=f) H (Zg H R (lkb R c)) dd_ R T3 R (at_3 I.ra2) λa H=>W2 H (Zg H R (lkb R c)) dd_ R p_4 (I.rd q) λa H=>Yc H (Zg H R (lkb R c)) dd_ R R R λa H=>Z2 H (lkb R c) R λa H=>Zj ?_
  obtain rfl:=o_1 j
  refine Zk ?_
  exact ⟨H.s,I⟩
 rintro a w ⟨H,I⟩
 refine c_if H R d ?_ ?_
 ·intro af d
  refine Zb (Yi (parts:=[]) (vs:=[]) (cs:=cat xa) H Za ld R R ZG Ju YF λa H=>Zl (seg:=cat xa) (cs':=cat xa) H I Za R R R ZG cq (q_1 cq cq) (ZD (cc1 ZZ (cc1 (s_1 xi) (cc1 ZZ (cc1 ZZ (cc1 (s_1 _) cc0)))))) (q_2 cq cq) λw a I H=>Zc H R λa H=>Ze ?_)
  have I:=M.nilS (α:=GEvent) NoB noB (M.nilS (α:=GRecord) NoB noB (M.nilS (α:=V16) NoB noB I))
  obtain rfl:=o_1 d
  have ag : Z7 prog _ _ (.cell 4 79) _:=ZE H R ZG R I.ra3 cq R
  have I:=M.fst (l:=[_,_,_]) I.pl1.pl2
  exact p_3 (ZJ (Yq H R ag (Zy H R) ⟨_,R,xd,xd,xd,R,I.outF (ZK (ZK (ZK Yd))),I.kept⟩))
 intro af d
 refine u_2 (ZA (Zb (Zq H R ZG R I.ra2 cq λa H=>?_)))
 obtain ⟨k,an,d⟩:=p_1 d
 refine Zp H R Zfu (Jj _ o b (I.rdo h) e (I.rdo x) f (I.rdo q) k an) ?_
 rintro v w a ⟨O,T,U,rfl,hFr,hK⟩ H
 have I:=I.add hK hFr
 refine Zv H I ZG λa0 w a I H=>Zl (seg:=cV O T U k) (cs':=cV O T U k) H I Za R R R ZG cq (q_1 cq cq) (ZD (cc1 (t_2 (I.sl1)) (cc1 (s_1 (k.Next : Int)) (cc1 (t_2 (I.sl2)) (cc1 (t_2 (I.sl3)) (cc1 (s_1 _) cc0)))))) (q_2 cq cq) λw a I H=>Ze (Zb (Zm H R (Xw) λa H=>ZB (v:=O) H R TF R (at_0 I.ra0) λa H=>Zq H R ZL R I.ra5 (u_1 _) λa H=>ZM (xs:=[.tmp 42]) (l:=([A] : List V16)) (vs:=[Value.agg (enc A).toArray]) H I Za ld R R s_3 ZL R dd_ R λa1 w a I H=>?_))
 obtain ⟨a2,ao,d⟩:=p_1 d
 obtain ⟨ap,rfl⟩:=ZU ao
 have I:=I.pl2
 refine ZX H I Za ld R R (I.sl1) s_3 ZL R dd_ ap λah w a I H=>Zm H R (Xw) λa H=>?_
 have I:=I.pl2
 refine Zl (seg:=[ah]) H I Za R R (Z5 (I.sl1)) TF R (Xf (pre:=[]) cl0 R) (t_2 (I.sl1)) (Ym (pre:=[]) cl0 R) λw a I H=>Ze (Zb (Zq H R ZG R I.ra0 cq λa H=>Zm H R (Xw) λa H=>ZB (v:=b) H R TF R (at_0 I.ra7) λa H=>Yu H R s_3 (I.rd h) λa H=>Y6 (parts:=[]) (vs:=[]) (cs:=enc xb) H Za ld R R ZW R ty5 YO λa H=>?_))
 have I:=I.pl4.pl4.pl3
 have hM0:=I
 obtain ⟨B,aq,d⟩:=p_1 d
 refine Zp H R Zf1 (K0 _ _ _ _ (⟨k.Keys ++ ([A] : List V16),k.Next,k.Records,k.Events,k.Head⟩ : GVault) ah T U 3 (o.Keys.length : Int) xb I B aq) ?_
 rintro v w a ⟨W,X,Y,rfl,I⟩ H
 have I:=I.pl5
 refine Zl (seg:=cV W X Y B) (cs':=cV W X Y B) H I Za R R R ZG cq (q_1 cq cq) (ZD (cc1 (t_2 (I.sl1)) (cc1 (s_1 (B.Next : Int)) (cc1 (t_2 (I.sl2)) (cc1 (t_2 (I.sl3)) (cc1 (s_1 _) cc0)))))) (q_2 cq cq) λw a I H=>Zc H R λa H=>Ze ?_
 obtain rfl:=o_1 d
 have ai : Z7 prog _ _ (.cell 4 79) _:=ZE H R ZG R I.ra0 cq R
 have I:=M.fst (l:=[_,_,_]) I.pl3.pl3.pl3
 exact p_3 (Yq H R ai (Zy H R) ⟨_,R,W,X,Y,R,I.outF (ZK (ZK (ZK Yd))),I.kept⟩)
def QW (d : GVault) (e : Int) (b : Int) : Option (Fl Int (Fl Unit Int)) :=
 if decide (b < (d.Records.length : Int)) then ((idx d.Records b).bind λc=>if c.Number == e then (some (Fl.ex (Fl.ex b))) else (some (Fl.nx (wr (b + 1))))) else (some (Fl.ex (Fl.nx ())))
def X8 (b : GVault) (c : Int) : Option (Int) :=
 (ZQ (QW b c) 0).bind λd=>d.el (λe=>some (-1)) (λr=>some r)
theorem T2 (i : World) (j : GVault) (c : Value) (u : Ro i j.Keys [c]) (d : Value) (e : Ro i j.Records [d]) (f : Value) (x : Ro i j.Events [f]) (y : Int) (r : Int) (J : X8 j y = some r) :
  Calls prog 163 [vcV c d f j,vI y].toArray i (Rt i (vI r)):=by
 refine ce func163 ?_
 intro a H
 have I:=M.start i
 unfold X8 at J
 refine Zb (Z1 (cs:=cV c d f j) H I Za ld R R λB w a I H=>Zc H R λa H=>Ze (s_2 (Zb (Zc H R λa H=>Ze ?_))))
 obtain ⟨G,z,k⟩:=p_1 J
 refine ZV (λa w=>∃ C : Unit,G = Fl.nx C ∧ Env 22 a [] ∧ M (Old i) i w []) ?_ ?_
 ·refine p_2 ?_
  refine ZP (λ(E : Int) a w=>Env 22 a [(1,vI y),(2,ptr B 0),(5,vI E)] ∧ M (Old i) i w [raw B (cV c d f j)]) z ⟨H.s,I⟩ ?_
  rintro E a w ⟨H,I⟩ K b m
  unfold QW at b
  refine s_2 (Zb (Zd H R λa H=>Zm H R (Ye) λa H=>ZB (v:=d) H R Xr R (at_2 I.ra0) λa H=>Yu H R o_3 (I.rd e) λa H=>Zn H R R R λa H=>Ze ?_))
  refine c_if H R b ?_ ?_
  ·intro n b
   refine u_2 (ZA (s_2 (p_2 (Zb (Zm H R (Ye) λa H=>ZB (v:=d) H R Xr R (at_2 I.ra0) λa H=>Zd H R λa H=>?_)))))
   obtain ⟨A,h,b⟩:=bix b
   refine Yp H R R o_3 Yk (I.rd e) h.1 λa H=>Zm H R (VC) λa H=>?_
   obtain ⟨F,o,q⟩:=Y2 e h.2 -- ^
   obtain ⟨L,N,rfl,O,T⟩:=Yl o -- ^
   refine ZB (v:=(vI A.Number)) H R ty2 R (at_0 (I.atk q (XM e h.2))) λa H=>Zd H R λa H=>Zn H R R R λa H=>Ze ?_
   refine c_if H R b ?_ ?_
   ·intro t b
    refine Zb (Zd H R λa H=>Zc H R λa H=>Ze ?_)
    obtain rfl:=m _ (ois b)
    obtain rfl:=o_1 k
    exact p_3 (Xa (ZJ (ZJ (Xa (ZJ (ZJ (kr1 H R R I.kept)))))))
   intro t b
   refine u_2 (Yy (ZA (t_1 (Zd H R λa H=>Zn H R R R λa H=>Zc H R λa H=>Zj (Zk ?_)))))
   exact ⟨_,ois b,H.s,I⟩
  intro n b
  refine s_4 (Zu (Zu (YE ?_)))
  obtain rfl:=m _ (ois b)
  refine Zk ?_
  have I:=M.fst (l:=[]) I
  exact ⟨(),R,H.sub trivial,I⟩
 rintro a w ⟨C,ht,H,I⟩
 subst ht
 have k:=KT k
 refine ZA (Zb (Zc H R λa H=>Ze ?_))
 obtain rfl:=o_1 k
 exact p_3 (kr1 H R R I.kept)
def Vp (f : GVault) (j : Int) : Option (GVault × Int) :=
 (X9 f).bind λk=>if !k then (some ((⟨[],0,[],[],Vector.replicate 32 (0 : UInt8)⟩ : GVault),1)) else ((X8 f j).bind λc=>if decide (c < 0) then (some ((⟨[],0,[],[],Vector.replicate 32 (0 : UInt8)⟩ : GVault),4)) else (if (f.Events.length : Int) == 60 then (some ((⟨[],0,[],[],Vector.replicate 32 (0 : UInt8)⟩ : GVault),3)) else ((VS f).bind λb=>((Wy ((wr (c + 1)) - c)).bind λ_=>(slc b.Records (0 : Int) c).bind λd=>(app 112 ([] : List GRecord) d).bind λl=>(slc b.Records (wr (c + 1)) (b.Records.length : Int)).bind λe=>(app 112 (([] : List GRecord) ++ d) e).bind λm=>some ((([] : List GRecord) ++ d) ++ e) : Option ((List GRecord))).bind λh=>(XP (⟨b.Keys,b.Next,h,b.Events,b.Head⟩ : GVault) 2 j (Vector.replicate 32 (0 : UInt8))).bind λi=>some (i,0))))
theorem Hj (B : World) (x : GVault) (e : Value) (n : Ro B x.Keys [e]) (f : Value) (o : Ro B x.Records [f]) (h : Value) (m : Ro B x.Events [h]) (p1 : Int) (r : GVault × Int) (J : Vp x p1 = some r) :
  Calls prog 59 [vcV e f h x,vI p1].toArray B (e_r λv w'=>(∃ y1 y2 y3 : Value,v = (Value.tuple [vcV y1 y2 y3 r.1,vI r.2].toArray) ∧ Fr B w' [osl NoB r.1.Keys y1,osl NoB r.1.Records y2,osl NoB r.1.Events y3] ∧ Kept (Old B) B w')):=by
 refine ce func59 ?_
 intro a H
 have I:=M.start B
 unfold Vp at J
 refine Zb (Z1 (cs:=cV e f h x) H I Za ld R R λb1 w a I H=>Zv H I ZG λb3 w a I H=>Zc H R λa H=>Ze (s_2 (Zb (Zq H R ZG R I.ra1 cq λa H=>?_))))
 obtain ⟨r5,e6,J⟩:=p_1 J
 refine c_k H I R yN (UG _ x e (I.rdo n) f (I.rdo o) h (I.rdo m) r5 e6) λw a I H=>?_
 refine Kp H R λa H=>Ze ?_
 refine c_if H R J ?_ ?_
 ·intro ao J
  refine Zb (Yi (parts:=[]) (vs:=[]) (cs:=cat xa) H Za ld R R ZG Ju YF λa H=>Zl (seg:=cat xa) (cs':=cat xa) H I Za R R R ZG cq (q_1 cq cq) (ZD (cc1 ZZ (cc1 (s_1 xi) (cc1 ZZ (cc1 ZZ (cc1 (s_1 _) cc0)))))) (q_2 cq cq) λw a I H=>Zc H R λa H=>Ze ?_)
  have I:=M.nilS (α:=GEvent) NoB noB (M.nilS (α:=GRecord) NoB noB (M.nilS (α:=V16) NoB noB I))
  obtain rfl:=o_1 J
  have ac : Z7 prog _ _ (.cell 4 79) _:=ZE H R ZG R I.ra3 cq R
  have I:=M.fst (l:=[_,_,_]) I.pl1.pl2
  exact p_3 (ZJ (Yq H R ac (Zy H R) ⟨_,R,xd,xd,xd,R,I.outF (ZK (ZK (ZK Yd))),I.kept⟩))
 intro ao J
 refine u_2 (ZA (Zb (Zq H R ZG R I.ra1 cq λa H=>Zd H R λa H=>?_)))
 obtain ⟨ad,ap,J⟩:=p_1 J
 refine c_k H I R Zc7 (T2 _ x e (I.rdo n) f (I.rdo o) h (I.rdo m) p1 ad ap) λw a I H=>?_
 refine Zc H R λa H=>Ze (s_2 (Zb (Zd H R λa H=>Zn H R R R λa H=>Ze ?_)))
 refine c_if H R J ?_ ?_
 ·intro ae J
  refine Zb (Yi (parts:=[]) (vs:=[]) (cs:=cat xa) H Za ld R R ZG Ju YF λa H=>Zl (seg:=cat xa) (cs':=cat xa) H I Za R R R ZG cq (q_1 cq cq) (ZD (cc1 ZZ (cc1 (s_1 xi) (cc1 ZZ (cc1 ZZ (cc1 (s_1 _) cc0)))))) (q_2 cq cq) λw a I H=>Zc H R λa H=>Ze ?_)
  have I:=M.nilS (α:=GEvent) NoB noB (M.nilS (α:=GRecord) NoB noB (M.nilS (α:=V16) NoB noB I))
  obtain rfl:=o_1 J
  have af : Z7 prog _ _ (.cell 4 79) _:=ZE H R ZG R I.ra3 cq R
  have I:=M.fst (l:=[_,_,_]) I.pl1.pl2
  exact p_3 (ZJ (Yq H R af (Zy H R) ⟨_,R,xd,xd,xd,R,I.outF (ZK (ZK (ZK Yd))),I.kept⟩))
 intro ae J
 refine u_2 (ZA (s_2 (Zb (Zm H R (XA) λa H=>ZB (v:=h) H R T3 R (at_3 I.ra1) λa H=>Yu H R p_4 (I.rd m) λa H=>Zn H R R R λa H=>Ze ?_))))
 refine c_if H R J ?_ ?_
 ·intro ag J
  refine Zb (Yi (parts:=[]) (vs:=[]) (cs:=cat xa) H Za ld R R ZG Ju YF λa H=>Zl (seg:=cat xa) (cs':=cat xa) H I Za R R R ZG cq (q_1 cq cq) (ZD (cc1 ZZ (cc1 (s_1 xi) (cc1 ZZ (cc1 ZZ (cc1 (s_1 _) cc0)))))) (q_2 cq cq) λw a I H=>Zc H R λa H=>Ze ?_)
  have I:=M.nilS (α:=GEvent) NoB noB (M.nilS (α:=GRecord) NoB noB (M.nilS (α:=V16) NoB noB I))
  obtain rfl:=o_1 J
  have ah : Z7 prog _ _ (.cell 4 79) _:=ZE H R ZG R I.ra3 cq R
  have I:=M.fst (l:=[_,_,_]) I.pl1.pl2
  exact p_3 (ZJ (Yq H R ah (Zy H R) ⟨_,R,xd,xd,xd,R,I.outF (ZK (ZK (ZK Yd))),I.kept⟩))
 intro ag J
 refine u_2 (ZA (Zb (Zq H R ZG R I.ra1 cq λa H=>?_)))
 obtain ⟨b,aq,J⟩:=p_1 J
 refine Zp H R Zfu (Jj _ x e (I.rdo n) f (I.rdo o) h (I.rdo m) b aq) ?_
 rintro v w a ⟨i,t,q,rfl,hFr,hK⟩ H
 have I:=I.add hK hFr
 refine Zv H I ZG λO w a I H=>Zl (seg:=cV i t q b) (cs':=cV i t q b) H I Za R R R ZG cq (q_1 cq cq) (ZD (cc1 (t_2 (I.sl1)) (cc1 (s_1 (b.Next : Int)) (cc1 (t_2 (I.sl2)) (cc1 (t_2 (I.sl3)) (cc1 (s_1 _) cc0)))))) (q_2 cq cq) λw a I H=>Ze ?_
 obtain ⟨ai,d,y⟩:=p_1 J
 refine ZI (λa w=>∃ C : Value,Env 42 a [(1,vI p1),(4,ptr b3 0),(7,ptr O 0)] ∧ M (Old B) B w [raw O (cV i C q b),osl NoB b.Keys i,osl NoB b.Events q,raw b3 xh,osl NoB ai C]) ?_ ?_
 ·have I:=I.pl2
  obtain ⟨K,L,I⟩:=I.toHdr noB
  obtain ⟨_,A,d⟩:=p_1 d
  have A:=VT A
  obtain ⟨a2,d_l43,d⟩:=p_1 d
  obtain ⟨h_l43,T,q_l43⟩:=Zdc d_l43 L
  obtain ⟨a3,ar,d⟩:=p_1 d
  obtain ⟨a4,d_l50,d⟩:=p_1 d
  obtain ⟨h_l50,U,q_l50⟩:=Zic d_l50 L
  refine Ys (its:=[osl NoB K t,els NoB b.Records K,raw O (cV i t q b),osl NoB b.Keys i,osl NoB b.Events q,raw b3 xh,raw b1 (cV e f h x)]) (mk:=([mkN [(5,λv=>osl NoB ((([] : List (Opq 52)) ++ h_l43) : List (Opq 52)) v),(0,λv=>osl NoB (([] : List (Opq 52)) : List (Opq 52)) v)]] : Mk)) [25,26,27,28,29,30,31,32,33,34,35] Yx R R dd_ R H (λu=>M.qE (M.q0 I.drew u) emN) (q_t ?_ (qsP (λz=>Zi z.E Za ld R (Ye) (kr0 R)) (qsP (λz=>Zz (v:=t) z.E Za ld R Xr R (at_2 (z.M.ra2)) (kr0 R)) (q_m (λ_=>R) (qsP (λz=>Q2 z.E Za ld R R (yl R) R R o_3 Yk (z.M.sl0) T (kr0 R)) (q_t ?_ (qsP (λz=>Zi z.E Za ld R (Ye) (kr0 R)) (qsP (λz=>Zz (v:=t) z.E Za ld R Xr R (at_2 (z.M.ra2)) (kr0 R)) (q_m (λ_=>R) (qsP (v:=(vI (wr (ad + 1)))) (λz=>Yc z.E Za ld R R R (kr0 R)) (qsP (λz=>Q2 z.E Za ld R (yl R) R R R o_3 Yk (z.M.sl0) U (kr0 R)) qs0))))))))))) ?_
  ·intro a w N D z
   have H:=z.E
   have hD : D 0 = false:=z.F
   have I:=z.M
   refine ZM (xs:=[]) (l:=([] : List (Opq 52))) (vs:=[]) H I Za ld R R o_3 Yk R dd_ R λa5 w a I H=>?_
   have aj : D 5 = false:=VE (j:=5) (k:=0) z.c R R R hD
   exact ⟨_,_,R,H,M.qPut (mk1:=[]) (mk2:=[]) I R (zu (A5 aj (A5 hD AG))) (Ht (l:=[_]) (A5 aj AG)),trivial⟩
  ·intro a w N D z
   have H:=z.E
   have hD : D 5 = false:=z.F
   have d0 : D 0 = true:=z.p 0 _ R R
   have I:=(z.M.chnF (pre:=[_,_,_,_,_,_,_]) hD).chnT (pre:=[_,_,_,_,_,_,_]) d0
   obtain ⟨W,rfl⟩:=ZU ar
   have W : (([] : List (Opq 52)).length + h_l43.length) * 112 ≤ 140737488355328:=by simpa [q_l43,q_l50] using W
   have I:=I.pl7
   exact ZX H I Za ld R R (Xl (I.sl1) T) o_3 Yk R dd_ W λa7 w a I H=>⟨_,_,R,H,M.qTogS (mk1:=[]) (mk2:=[]) I R (Ht (l:=[]) AG),trivial⟩
  intro a w N D H I hG ak
  have d5:=ak 5 dd_
  have I:=I.chnT (pre:=[_,_,_,_,_,_,_]) d5
  obtain ⟨a9,au,d⟩:=p_1 d
  obtain ⟨X,rfl⟩:=ZU au
  have X : ((([] : List (Opq 52)) ++ h_l43).length + h_l50.length) * 112 ≤ 140737488355328:=by simpa [q_l43,q_l50] using X
  have I:=I.pl7
  refine ZX H I Za ld R R (Xl (I.sl1) U) o_3 Yk R dd_ X λal w a I H=>Zm H R (Ye) λa H=>?_
  have I:=I.pl3
  refine Zl (seg:=[al]) H I Za R R (Z5 (I.sl1)) Xr R (ft_2 R) (t_2 (I.sl1)) (sp_2 R) λw a I H=>?_
  have I:=M.ofHdr (α:=GRecord) ((I.pl3.cutEls noB d_l43 d_l50 T U (Int.sub_nonneg.1 A)).pl2) noB
  refine Zj ?_
  obtain rfl:=o_1 d
  refine Zk ?_
  have I:=M.fst (l:=[_,_,_,_,_]) I.pl5.pl5.pl5.pl4
  exact ⟨al,H.s,I⟩
 rintro a w ⟨C,H,I⟩
 refine Zb (Zq H R ZG R I.ra0 cq λa H=>Zd H R λa H=>Y6 (parts:=[]) (vs:=[]) (cs:=enc xb) H Za ld R R ZW R ty5 YO λa H=>?_)
 have I:=I.pl2.pl4.pl3
 have hM0:=I
 obtain ⟨G,av,y⟩:=p_1 y
 refine Zp H R Zf1 (K0 _ _ _ _ (⟨b.Keys,b.Next,ai,b.Events,b.Head⟩ : GVault) i C q 2 p1 xb I G av) ?_
 rintro v w a ⟨Y,Z,aa,rfl,I⟩ H
 have I:=I.pl4
 refine Zl (seg:=cV Y Z aa G) (cs':=cV Y Z aa G) H I Za R R R ZG cq (q_1 cq cq) (ZD (cc1 (t_2 (I.sl1)) (cc1 (s_1 (G.Next : Int)) (cc1 (t_2 (I.sl2)) (cc1 (t_2 (I.sl3)) (cc1 (s_1 _) cc0)))))) (q_2 cq cq) λw a I H=>Zc H R λa H=>Ze ?_
 obtain rfl:=o_1 y
 have am : Z7 prog _ _ (.cell 4 79) _:=ZE H R ZG R I.ra0 cq R
 have I:=M.fst (l:=[_,_,_]) I.pl3.pl3.pl3
 exact p_3 (Yq H R am (Zy H R) ⟨_,R,Y,Z,aa,R,I.outF (ZK (ZK (ZK Yd))),I.kept⟩)
def Kt (e : List V16) (f : List UInt8 × Int) (b : List UInt8 × Int) : Option (Fl (List UInt8 × Int) (List UInt8)) :=
 if decide (b.2 < 16) then ((idx e f.2).bind λd=>(Z4 d b.2).bind λc=>(app 1 b.1 ([c] : List UInt8)).bind λh=>some (Fl.nx ((b.1 ++ ([c] : List UInt8)),wr (b.2 + 1)))) else (some (Fl.ex b.1))
def Us (d : List V16) (b : List UInt8 × Int) : Option (Fl (List UInt8 × Int) (List UInt8)) :=
 if decide (b.2 < (d.length : Int)) then ((ZQ (Kt d b) (b.1,0)).bind λc=>some (Fl.nx (c,wr (b.2 + 1)))) else (some (Fl.ex b.1))
def Wv (b : List V16) : Option ((List UInt8)) :=
 (ZQ (Us b) (([] : List UInt8),0)).bind λc=>some c
theorem JV (f : World) (N : List V16) (d : Value) (e : Ro f N [d]) (r : List UInt8) (J : Wv N = some r) :
  Calls prog 245 [d].toArray f (e_r λv w'=>(∃ O : Value,v = O ∧ Fr f w' [osl NoB r O] ∧ Kept (Old f) f w')):=by
 refine ce func245 ?_
 intro a H
 have I:=M.start f
 unfold Wv at J
 refine Zb (Zc H R λa H=>Ze (Zb (ZM (xs:=[]) (l:=xv) (vs:=[]) H I Za ld R R o_2 ty5 R dd_ R λT w a I H=>Zc H R λa H=>Ze (s_2 (Zb (Zc H R λa H=>Ze ?_))))))
 obtain ⟨U,C,E⟩:=p_1 J
 refine ZV (λa w=>∃ B : Value,Env 27 a [(3,B)] ∧ M (Old f) f w [osl NoB U B]) ?_ ?_
 ·refine p_2 ?_
  refine ZP (λ(o : List UInt8 × Int) a w=>∃ q : Value,Env 27 a [(0,d),(3,q),(4,vI o.2)] ∧ M (Old f) f w [osl NoB o.1 q]) C ⟨T,H.s,I⟩ ?_
  rintro o a w ⟨q,H,I⟩ W c t
  unfold Us at c
  refine s_2 (Zb (Zd H R λa H=>Zd H R λa H=>Yu H R s_3 (I.rd e) λa H=>Zn H R R R λa H=>Ze ?_))
  refine c_if H R c ?_ ?_
  ·intro u c
   refine u_2 (ZA (s_2 (p_2 (Zb (Zc H R λa H=>Ze ?_)))))
   obtain ⟨F,x,y⟩:=p_1 c
   refine ZV (λa w=>∃ h : Value,Env 27 a [(0,d),(3,h),(4,vI o.2)] ∧ M (Old f) f w [osl NoB F h]) ?_ ?_
   ·refine p_2 ?_
    refine ZP (λ(m : List UInt8 × Int) a w=>∃ i : Value,Env 27 a [(0,d),(3,i),(4,vI o.2),(5,vI m.2)] ∧ M (Old f) f w [osl NoB m.1 i]) x ⟨q,H.s,I⟩ ?_
    rintro m a w ⟨i,H,I⟩ X b z
    unfold Kt at b
    refine s_2 (Zb (Zd H R λa H=>Zn H R R R λa H=>Ze ?_))
    refine c_if H R b ?_ ?_
    ·intro A b
     refine u_2 (ZA (s_2 (p_2 (t_1 (Zd H R λa H=>Zd H R λa H=>Zd H R λa H=>Zd H R λa H=>?_)))))
     obtain ⟨Y,j,b⟩:=bix b
     refine Yp H R R s_3 ZL (I.rd e) j.1 λa H=>?_
     obtain ⟨n,k,b⟩:=bvx b
     refine ZR H R R o_4 ty5 k.1 λa H=>ZB (v:=(vB n)) H R ty5 R (At.vec (YG (I.rd e) j.2) k.2) λa H=>ZM (xs:=[.tmp 23]) (l:=([n] : List UInt8)) (vs:=[vB n]) H I Za ld R R o_2 ty5 R dd_ R λZ w a I H=>?_
     obtain ⟨aa,G,b⟩:=p_1 b
     obtain ⟨K,rfl⟩:=ZU G
     have I:=I.pl1
     refine ZX H I Za ld R R (I.sl1) o_2 ty5 R dd_ K λL w a I H=>Zc H R λa H=>Zj (Yy (ZA (t_1 (Zd H R λa H=>Zn H R R R λa H=>Zc H R λa H=>Zj (Zk ?_)))))
     have I:=M.fst (l:=[_]) I
     exact ⟨_,ois b,L,H.s,I⟩
    intro A b
    refine s_4 (Zu (Zu (YE ?_)))
    obtain rfl:=z _ (ois b)
    refine Zk ?_
    exact ⟨i,H.s,I⟩
   rintro a w ⟨h,H,I⟩
   refine Yy (ZA (t_1 (Zd H R λa H=>Zn H R R R λa H=>Zc H R λa H=>Zj (Zk ?_))))
   exact ⟨_,ois y,h,H.s,I⟩
  intro u c
  refine s_4 (Zu (Zu (YE ?_)))
  obtain rfl:=t _ (ois c)
  refine Zk ?_
  exact ⟨q,H.s,I⟩
 rintro a w ⟨B,H,I⟩
 refine ZA (Zb (Zd H R λa H=>Zc H R λa H=>Ze ?_))
 obtain rfl:=o_1 E
 exact p_3 (ZY H R (Zy H R) ⟨_,R,B,R,I.outF (ZK Yd),I.kept⟩)
def TC (d : UInt8) (b : V16 × Int) : Option (Fl (V16 × Int) V16) :=
 if decide (b.2 < 16) then ((Z4 b.1 b.2).bind λc=>(Z4 b.1 b.2).bind λe=>some (Fl.nx ((b.1.setIfInBounds (b.2).toNat (c ^^^ d)),wr (b.2 + 1)))) else (some (Fl.ex b.1))
def UR (b : V16) (c : UInt8) : Option (V16) :=
 (ZQ (TC c) (b,0)).bind λd=>some d
theorem zb (h : World) (o : V16) (e : UInt8) (r : V16) (J : UR o e = some r) :
  Calls prog 247 [Value.agg (enc o).toArray,vB e].toArray h (Rt h (Value.agg (enc r).toArray)):=by
 refine ce func247 ?_
 intro a H
 have I:=M.start h
 unfold UR at J
 refine Zb (Z1 (cs:=enc o) H I Za ld R R λm w a I H=>Zv H I ZL λn w a I H=>Ze (s_2 (Zb (Zc H R λa H=>Ze ?_))))
 obtain ⟨q,t,u⟩:=p_1 J
 refine ZV (λa w=>Env 18 a [(2,ptr m 0),(4,ptr n 0)] ∧ M (Old h) h w [raw n xl,raw m (enc q)]) ?_ ?_
 ·refine p_2 ?_
  refine ZP (λ(i : V16 × Int) a w=>Env 18 a [(1,vB e),(2,ptr m 0),(4,ptr n 0),(5,vI i.2)] ∧ M (Old h) h w [raw n xl,raw m (enc i.1)]) t ⟨H.s,I⟩ ?_
  rintro i a w ⟨H,I⟩ y b j
  unfold TC at b
  refine s_2 (Zb (Zd H R λa H=>Zn H R R R λa H=>Ze ?_))
  refine c_if H R b ?_ ?_
  ·intro k b
   refine u_2 (ZA (s_2 (p_2 (t_1 (Zd H R λa H=>Zd H R λa H=>?_)))))
   obtain ⟨c,f,b⟩:=bvx b
   refine ZR H R R o_4 ty5 f.1 λa H=>ZB (v:=(vB c)) H R ty5 R (At.vec I.ra1 f.2) λa H=>Zd H R λa H=>Zn H R R (Uj c e) λa H=>?_
   obtain ⟨z,d,b⟩:=bvx b
   refine ZR H R R o_4 ty5 d.1 λa H=>?_
   have I:=I.pl1
   refine Zl (seg:=[vB (c ^^^ e)]) (cs':=enc (i.1.setIfInBounds (i.2).toNat (c ^^^ e))) H I Za R R R ty5 R (Yf (v:=i.1) (x:=c ^^^ e) d.1) (s_1 (c ^^^ e : UInt8)) (ZS (v:=i.1) (x:=c ^^^ e) d.1) λw a I H=>Zj (Yy (ZA (t_1 (Zd H R λa H=>Zn H R R R λa H=>Zc H R λa H=>Zj (Zk ?_)))))
   have I:=I.pl1
   exact ⟨_,ois b,H.s,I⟩
  intro k b
  refine s_4 (Zu (Zu (YE ?_)))
  obtain rfl:=j _ (ois b)
  refine Zk ?_
  exact ⟨H.s,I⟩
 rintro a w ⟨H,I⟩
 refine ZA (Zb (Zq H R ZL R I.ra1 (u_1 _) λa H=>Zl (seg:=enc q) (cs':=enc q) H I Za R R R ZL (u_1 _) (zle flq) (s_1 _) (Zh flq) λw a I H=>Ze ?_))
 obtain rfl:=o_1 u
 have l : Z7 prog _ _ (.cell 4 53) _:=ZE H R ZL R I.ra0 (u_1 _) R
 exact p_3 (ZY H R l ⟨_,R,R,I.kept⟩)
def Qk (e : V16) (d : UInt8) (b : List UInt8 × Int) : Option (Fl (List UInt8 × Int) (List UInt8)) :=
 if decide (b.2 < 16) then ((Z4 e b.2).bind λc=>(app 1 b.1 ([c ^^^ d] : List UInt8)).bind λf=>some (Fl.nx ((b.1 ++ ([c ^^^ d] : List UInt8)),wr (b.2 + 1)))) else (some (Fl.ex b.1))
def V5 (b : V16) (c : UInt8) : Option ((List UInt8)) :=
 (ZQ (Qk b c) (([] : List UInt8),0)).bind λd=>some d
theorem HI (c : World) (m : V16) (i : UInt8) (r : List UInt8) (J : V5 m i = some r) :
  Calls prog 306 [Value.agg (enc m).toArray,vB i].toArray c (e_r λv w'=>(∃ x : Value,v = x ∧ Fr c w' [osl NoB r x] ∧ Kept (Old c) c w')):=by
 refine ce func306 ?_
 intro a H
 have I:=M.start c
 unfold V5 at J
 refine Zb (Z1 (cs:=enc m) H I Za ld R R λy w a I H=>Zc H R λa H=>Ze (Zb (ZM (xs:=[]) (l:=xv) (vs:=[]) H I Za ld R R o_2 ty5 R dd_ R λz w a I H=>Zc H R λa H=>Ze (s_2 (Zb (Zc H R λa H=>Ze ?_))))))
 obtain ⟨A,n,o⟩:=p_1 J
 refine ZV (λa w=>∃ u8 : Value,Env 21 a [(5,u8)] ∧ M (Old c) c w [osl NoB A u8]) ?_ ?_
 ·refine p_2 ?_
  have I:=I.pl1
  refine ZP (λ(h : List UInt8 × Int) a w=>∃ d : Value,Env 21 a [(1,vB i),(2,ptr y 0),(5,d),(6,vI h.2)] ∧ M (Old c) c w [raw y (enc m),osl NoB h.1 d]) n ⟨z,H.s,I⟩ ?_
  rintro h a w ⟨d,H,I⟩ B b j
  unfold Qk at b
  refine s_2 (Zb (Zd H R λa H=>Zn H R R R λa H=>Ze ?_))
  refine c_if H R b ?_ ?_
  ·intro k b
   refine u_2 (ZA (s_2 (p_2 (t_1 (Zd H R λa H=>Zd H R λa H=>?_)))))
   obtain ⟨e,f,b⟩:=bvx b
   refine ZR H R R o_4 ty5 f.1 λa H=>ZB (v:=(vB e)) H R ty5 R (At.vec I.ra0 f.2) λa H=>Zd H R λa H=>Zn H R R (Uj e i) λa H=>ZM (xs:=[.tmp 17]) (l:=([e ^^^ i] : List UInt8)) (vs:=[vB (e ^^^ i)]) H I Za ld R R o_2 ty5 R dd_ R λC w a I H=>?_
   obtain ⟨E,q,b⟩:=p_1 b
   obtain ⟨t,rfl⟩:=ZU q
   have I:=I.pl2
   refine ZX H I Za ld R R (I.sl1) o_2 ty5 R dd_ t λu w a I H=>Zc H R λa H=>Zj (Yy (ZA (t_1 (Zd H R λa H=>Zn H R R R λa H=>Zc H R λa H=>Zj (Zk ?_)))))
   have I:=M.fst (l:=[_,_]) I.pl2
   exact ⟨_,ois b,u,H.s,I⟩
  intro k b
  refine s_4 (Zu (Zu (YE ?_)))
  obtain rfl:=j _ (ois b)
  refine Zk ?_
  have I:=M.fst (l:=[_]) I.pl1
  exact ⟨d,H.s,I⟩
 rintro a w ⟨u8,H,I⟩
 refine ZA (Zb (Zd H R λa H=>Zc H R λa H=>Ze ?_))
 obtain rfl:=o_1 o
 exact p_3 (ZY H R (Zy H R) ⟨_,R,u8,R,I.outF (ZK Yd),I.kept⟩)
def UZ (h : GCipher) (i : V16) (j : List UInt8) : Option (V32) :=
 (V5 i 90).bind λk=>(app 1 k j).bind λl=>(VN h (k ++ j)).bind λd=>((V5 i 165).bind λb=>(WN d).bind λc=>(app 1 b c).bind λm=>(VN h (b ++ c)).bind λe=>some e : Option (V32)).bind λf=>some f
theorem Ay (G : World) (d : GCipher) (A : V16) (K : List UInt8) (x : Value) (B : Ro G K [x]) (r : V32) (J : UZ d A K = some r) :
  Calls prog 246 [Value.agg (enc d).toArray,Value.agg (enc A).toArray,x].toArray G (Rt G (Value.agg (enc r).toArray)):=by
 refine ce func246 ?_
 intro a H
 have I:=M.start G
 unfold UZ at J
 refine Zb (Z1 (cs:=cat [[vI d.Field],enc d.Box,enc d.Mix,enc d.Places,[vI d.Rounds]]) H I Za ld R R λb1 w a I H=>Z1 (cs:=enc A) H I Za ld R R λb3 w a I H=>Zv H I ZW λY w a I H=>Ze (s_2 ?_))
 obtain ⟨L,e9,J⟩:=p_1 J
 obtain ⟨an,Z,J⟩:=p_1 J
 obtain ⟨m,aa,J⟩:=p_1 J
 refine Ys (its:=[raw Y xm,raw b3 (enc A),raw b1 (cat [[vI d.Field],enc d.Box,enc d.Mix,enc d.Places,[vI d.Rounds]])]) (mk:=([mkN [(4,λv=>osl NoB ((L ++ K) : List UInt8) v),(2,λv=>osl NoB L v)],mkO 6 (λv=>Wk v xm)] : Mk)) [8,9,10,11,12,13,7] Yx R R dd_ R H (λu=>M.qE (M.qE (M.q0 I.drew u) emO) emN) (qsP (λz=>Zx z.E Za ld R KU R (z.M.ra2) cq (kr0 R)) (qsP (λz=>Zx z.E Za ld R ZL R (z.M.ra1) (u_1 _) (kr0 R)) (q_t ?_ (q_m (λ_=>R) (q_t ?_ (qsP (v:=(Value.agg (enc m).toArray)) ?_ (q_t ?_ qs0))))))) ?_
 ·intro a w n D z
  have H:=z.E
  have hD : D 2 = false:=z.F
  have hM0:=z.M
  have I:=z.M
  refine Zp H R (cbm func306) (HI _ A 90 L e9) ?_
  rintro _ w a ⟨_,rfl,hFr,hK⟩ H
  have I:=hM0.add hK hFr
  have N : D 4 = false:=VE (j:=4) (k:=0) z.c R R R hD
  exact ⟨_,_,R,H,M.qPut (mk1:=[]) (mk2:=[_]) I R (zu (A5 N (A5 hD AG))) (Ht (l:=[_]) (A5 N AG)),trivial⟩
 ·intro a w n D z
  have H:=z.E
  have hD : D 4 = false:=z.F
  have d2 : D 2 = true:=z.p 0 _ R R
  have I:=(z.M.chnF (pre:=[_,_,_]) hD).chnT (pre:=[_,_,_]) d2
  obtain ⟨ac,rfl⟩:=ZU Z
  have I:=I.pl3
  exact ZX H I Za ld R R (I.rd B) o_2 ty5 R dd_ ac λao w a I H=>⟨_,_,R,H,M.qTogS (mk1:=[]) (mk2:=[_]) I R (Ht (l:=[]) AG),trivial⟩
 ·intro a w n D z
  have H:=z.E
  have y : D 4 = true:=z.p 1 _ R R
  have I:=z.M.chnT (pre:=[_,_,_]) y
  refine Zp H R Zfs (JF _ d (L ++ K) (n 4) (I.sl3) m aa) ?_
  rintro v w a ⟨rfl,hK⟩ H
  exact ⟨hK,_,R,H⟩
 ·intro a w n D z
  have H:=z.E
  have hD : D 6 = false:=z.F
  have I:=z.M
  refine Zv H I ZW λap w a I H=>?_
  have I:=I.pack1 (it:=Wk _ xm) (λw w' fp ⟨b',e,k⟩ hb=>⟨b',e,YN w w' fp k hb⟩) (λfp k=>⟨_,R,k⟩)
  exact ⟨_,_,R,H,M.qFill (mk1:=[_]) (mk2:=[]) (f:=λv=>Wk v xm) I R hD,trivial⟩
 intro a w n D H I hG h
 have y:=h 4 dd_
 have d6:=h 6 dd_
 have I:=((I.chnT (pre:=[_,_,_]) y).sure (pre:=[_,_,_,_]) d6).pl
 obtain ⟨_,⟨O,T,_⟩,_⟩:=I.head
 have I:=I.pack1 YN (it:=raw O xm) (λfp ⟨b2,e2,k2⟩=>by rw [T] at e2; simp [ptr] at e2; subst e2; exact k2)
 have H:=H.setq (t:=7) R T
 refine Zl (seg:=enc m) (cs':=enc m) H I Za R R R ZW (u_1 _) (zle flq) (s_1 _) (Zh flq) λw a I H=>Zj (ZA ?_)
 obtain ⟨ae,b,U⟩:=p_1 J
 refine ZI (λa w=>Env 21 a [(6,ptr Y 0)] ∧ M (Old G) G w [raw Y (enc ae)]) ?_ ?_
 ·obtain ⟨q,af,b⟩:=p_1 b
  obtain ⟨o,ag,b⟩:=p_1 b
  obtain ⟨au,ah,b⟩:=p_1 b
  refine Ys (its:=[raw O (enc m),raw Y xm,raw b3 (enc A),raw b1 (cat [[vI d.Field],enc d.Box,enc d.Mix,enc d.Places,[vI d.Rounds]]),osl NoB ((L ++ K) : List UInt8) (n 4)]) (mk:=([mkN [(5,λv=>osl NoB ((q ++ o) : List UInt8) v),(2,λv=>osl NoB q v)],mkO 4 (λv=>osl NoB o v)] : Mk)) [14,15,16,17,18,19] Yx R R dd_ R H (λu=>M.qE (M.qE (M.q0 I.drew u) emO) emN) (qsP (λz=>Zx z.E Za ld R KU R (z.M.ra3) cq (kr0 R)) (qsP (λz=>Zx z.E Za ld R ZL R (z.M.ra2) (u_1 _) (kr0 R)) (q_t ?_ (qsP (λz=>Zx z.E Za ld R ZW R (z.M.ra0) (u_1 _) (kr0 R)) (q_t ?_ (q_t ?_ qs0)))))) ?_
  ·intro a w i D z
   have H:=z.E
   have hD : D 2 = false:=z.F
   have hM0:=z.M
   have I:=z.M
   refine Zp H R (cbm func306) (HI _ A 165 q af) ?_
   rintro _ w a ⟨_,rfl,hFr,hK⟩ H
   have I:=hM0.add hK hFr
   have W : D 5 = false:=VE (j:=5) (k:=0) z.c R R R hD
   exact ⟨_,_,R,H,M.qPut (mk1:=[]) (mk2:=[_]) I R (zu (A5 W (A5 hD AG))) (Ht (l:=[_]) (A5 W AG)),trivial⟩
  ·intro a w i D z
   have H:=z.E
   have hD : D 4 = false:=z.F
   have hM0:=z.M
   have I:=z.M
   refine Zp H R Zfq (Kz _ m o ag) ?_
   rintro _ w a ⟨_,rfl,hFr,hK⟩ H
   have I:=hM0.add hK hFr
   exact ⟨_,_,R,H,M.qFill (mk1:=[_]) (mk2:=[]) (f:=(λv=>osl NoB o v)) I R hD,trivial⟩
  ·intro a w i D z
   have H:=z.E
   have hD : D 5 = false:=z.F
   have d2 : D 2 = true:=z.p 0 _ R R
   have y : D 4 = true:=z.p 1 _ R R
   have I:=((z.M.chnF (pre:=[_,_,_,_,_]) hD).chnT (pre:=[_,_,_,_,_]) d2).sure (pre:=[_,_,_,_,_,_]) y
   obtain ⟨ai,rfl⟩:=ZU ah
   have I:=I.pl5
   refine ZX H I Za ld R R (I.sl6) o_2 ty5 R dd_ ai λav w a I H=>?_
   have I:=I.unsure (pre:=[_,_,_,_,_,_]) y
   exact ⟨_,_,R,H,M.qTogS (mk1:=[]) (mk2:=[_]) I R (Ht (l:=[]) AG),trivial⟩
  intro a w i D H I hG h
  have y:=h 4 dd_
  have d5:=h 5 dd_
  have I:=(I.chnT (pre:=[_,_,_,_,_]) d5).sure (pre:=[_,_,_,_,_,_]) y
  obtain ⟨C,aj,b⟩:=p_1 b
  refine Zp H R Zfs (JF _ d (q ++ o) (i 5) (I.sl5) C aj) ?_
  rintro v w a ⟨rfl,hK⟩ H
  have I:=(I.keep hK).pl1
  refine Zl (seg:=enc C) (cs':=enc C) H I Za R R R ZW (u_1 _) (zle flq) (s_1 _) (Zh flq) λw a I H=>Zj ?_
  obtain rfl:=o_1 b
  refine Zk ?_
  have I:=M.fst (l:=[_]) I
  exact ⟨H.s,I⟩
 rintro a w ⟨H,I⟩
 obtain rfl:=o_1 U
 have X : Z7 prog _ _ (.cell 6 32) _:=ZE H R ZW R I.ra0 (u_1 _) R
 exact p_3 (ZY H R X ⟨_,R,R,I.kept⟩)
def X2 (l : GVault) (b : GRecord) : Option (V32) :=
 ((Tq b.Number).bind λd=>(app 1 d ([ZC b.Version] : List UInt8)).bind λm=>some (d ++ ([ZC b.Version] : List UInt8)) : Option ((List UInt8))).bind λe=>(Wv ([b.Nonce] : List V16)).bind λc=>(app 1 e c).bind λn=>(app 1 (e ++ c) ([ZC (b.Label.length : Int)] : List UInt8)).bind λo=>(app 1 ((e ++ c) ++ ([ZC (b.Label.length : Int)] : List UInt8)) b.Label).bind λq=>(app 1 (((e ++ c) ++ ([ZC (b.Label.length : Int)] : List UInt8)) ++ b.Label) b.Body).bind λt=>((Wh).bind λf=>(idx l.Keys b.Version).bind λh=>(UR h 129).bind λi=>(UZ f i ((((e ++ c) ++ ([ZC (b.Label.length : Int)] : List UInt8)) ++ b.Label) ++ b.Body)).bind λj=>some j : Option (V32)).bind λk=>some k
theorem Ks (m : World) (t : GVault) (h : Value) (n : Ro m t.Keys [h]) (j : Value) (X : Ro m t.Records [j]) (k : Value) (Y : Ro m t.Events [k]) (b : GRecord) (d : Value) (o : Ro m b.Label [d]) (i : Value) (B : Ro m b.Body [i]) (r : V32) (J : X2 t b = some r) :
  Calls prog 153 [vcV h j k t,vcR d i b].toArray m (Rt m (Value.agg (enc r).toArray)):=by
 refine ce func153 ?_
 intro a H
 have I:=M.start m
 unfold X2 at J
 refine Zb (Z1 (cs:=cV h j k t) H I Za ld R R λZ w a I H=>Z1 (cs:=cR d i b) H I Za ld R R λb3 w a I H=>Zv H I ZW λL w a I H=>Ze ?_)
 obtain ⟨j7,q,e⟩:=p_1 J
 refine ZI (λa w=>∃ C : Value,Env 45 a [(2,ptr Z 0),(3,ptr b3 0),(4,ptr L 0),(5,C)] ∧ M (Old m) m w [raw L xm,raw b3 (cR d i b),raw Z (cV h j k t),osl NoB j7 C]) ?_ ?_
 ·obtain ⟨G,ab,q⟩:=p_1 q
  refine Ys (its:=[raw L xm,raw b3 (cR d i b),raw Z (cV h j k t)]) (mk:=([mkO 2 (λv=>osl NoB G v),mkO 6 (λv=>osl NoB (([ZC b.Version] : List UInt8) : List UInt8) v)] : Mk)) [6,7,8,9,10,11,12] Yx R R dd_ R H (λu=>M.qE (M.qE (M.q0 I.drew u) emO) emO) (qsP (λz=>Zi z.E Za ld R (VC) (kr0 R)) (qsP (λz=>Zz (v:=(vI b.Number)) z.E Za ld R ty2 R (at_0 (z.M.ra1)) (kr0 R)) (q_t ?_ (qsP (λz=>Zi z.E Za ld R (TB) (kr0 R)) (qsP (λz=>Zz (v:=(vI b.Version)) z.E Za ld R ty2 R (at_1 (z.M.ra1)) (kr0 R)) (qsP (λz=>Y5 z.E Za ld R o_5 u_3 (kr0 R)) (q_t ?_ qs0))))))) ?_
  ·intro a w x D z
   have H:=z.E
   have hD : D 2 = false:=z.F
   have hM0:=z.M
   have I:=z.M
   refine Zp H R (cbm func244) (BO _ b.Number G ab) ?_
   rintro _ w a ⟨_,rfl,hFr,hK⟩ H
   have I:=hM0.add hK hFr
   exact ⟨_,_,R,H,M.qFill (mk1:=[]) (mk2:=[_]) (f:=(λv=>osl NoB G v)) I R hD,trivial⟩
  ·intro a w x D z
   have H:=z.E
   have hD : D 6 = false:=z.F
   have I:=z.M
   exact ZM (xs:=[.tmp 11]) (l:=([ZC b.Version] : List UInt8)) (vs:=[vB (ZC b.Version)]) H I Za ld R R o_2 ty5 R dd_ R λay w a I H=>⟨_,_,R,H,M.qFill (mk1:=[_]) (mk2:=[]) (f:=(λv=>osl NoB (([ZC b.Version] : List UInt8) : List UInt8) v)) I R hD,trivial⟩
  intro a w x D H I hG y
  have d2:=y 2 dd_
  have d6:=y 6 dd_
  have I:=(I.sure (pre:=[_,_,_]) d2).sure (pre:=[_,_,_,_]) d6
  obtain ⟨a1,ac,q⟩:=p_1 q
  obtain ⟨ad,rfl⟩:=ZU ac
  have I:=I.pl3
  refine ZX H I Za ld R R (I.sl4) o_2 ty5 R dd_ ad λae w a I H=>Zc H R λa H=>Zj ?_
  obtain rfl:=o_1 q
  refine Zk ?_
  have I:=M.fst (l:=[_,_,_,_]) I.pl3.pl3.pl3
  exact ⟨ae,H.s,I⟩
 rintro a w ⟨C,H,I⟩
 refine Zb (Zd H R λa H=>Zm H R (Ho) λa H=>Zq H R ZL R (at_2 I.ra1) (u_1 _) λa H=>ZM (xs:=[.tmp 16]) (l:=([b.Nonce] : List V16)) (vs:=[Value.agg (enc b.Nonce).toArray]) H I Za ld R R s_3 ZL R dd_ R λaf w a I H=>?_)
 obtain ⟨N,ag,e⟩:=p_1 e
 refine Zp H R Zh6 (JV _ ([b.Nonce] : List V16) af (I.sl0) N ag) ?_
 rintro a2 w a ⟨_,rfl,hFr,hK⟩ H
 have I:=I.add hK hFr
 obtain ⟨a3,ah,e⟩:=p_1 e
 obtain ⟨ai,rfl⟩:=ZU ah
 have I:=I.pl5
 refine ZX H I Za ld R R (I.sl1) o_2 ty5 R dd_ ai λa4 w a I H=>Zc H R λa H=>Ze (Zb (Zd H R λa H=>Zm H R (Ka) λa H=>ZB (v:=d) H R Wo R (at_3 I.ra4) λa H=>Yu H R o_2 (I.rd o) λa H=>Y5 H Za ld R s_5 u_3 λa H=>ZM (xs:=[.tmp 24]) (l:=([ZC (b.Label.length : Int)] : List UInt8)) (vs:=[vB (ZC (b.Label.length : Int))]) H I Za ld R R o_2 ty5 R dd_ R λa5 w a I H=>?_))
 obtain ⟨a6,aj,e⟩:=p_1 e
 obtain ⟨ak,rfl⟩:=ZU aj
 have I:=I.pl1
 refine ZX H I Za ld R R (I.sl1) o_2 ty5 R dd_ ak λa7 w a I H=>Zc H R λa H=>Ze (Zb (Zd H R λa H=>Zm H R (Ka) λa H=>ZB (v:=d) H R Wo R (at_3 I.ra5) λa H=>?_))
 obtain ⟨a8,al,e⟩:=p_1 e
 obtain ⟨am,rfl⟩:=ZU al
 refine ZX H I Za ld R R (I.rd o) o_2 ty5 R dd_ am λa9 w a I H=>Zc H R λa H=>Ze (Zb (Zd H R λa H=>Zm H R (Qh) λa H=>ZB (v:=i) H R Wo R (at_4 I.ra5) λa H=>?_))
 obtain ⟨ba,an,e⟩:=p_1 e
 obtain ⟨ao,rfl⟩:=ZU an
 refine ZX H I Za ld R R (I.rd B) o_2 ty5 R dd_ ao λap w a I H=>Zc H R λa H=>Ze ?_
 obtain ⟨aq,c,O⟩:=p_1 e
 refine ZI (λa w=>Env 45 a [(4,ptr L 0)] ∧ M (Old m) m w [raw L (enc aq)]) ?_ ?_
 ·obtain ⟨T,ar,c⟩:=p_1 c
  obtain ⟨au,A,c⟩:=bix c
  obtain ⟨U,av,c⟩:=p_1 c
  obtain ⟨K,aw,c⟩:=p_1 c
  refine Z9 [35,36,37,38,39,40,41,42,43,44] Yx R R dd_ R H I (qsP (λz=>Z8 z.E Za ld R Zfg (QY _  T ar) (kc R)) (qsP (λz=>Zi z.E Za ld R (Xw) (kr0 R)) (qsP (λz=>Zz (v:=h) z.E Za ld R TF R (at_0 (z.M.ra6)) (kr0 R)) (qsP (λz=>Zi z.E Za ld R (TB) (kr0 R)) (qsP (λz=>Zz (v:=(vI b.Version)) z.E Za ld R ty2 R (at_1 (z.M.ra5)) (kr0 R)) (qsP (λz=>Z6 z.E Za ld R R s_3 ZL (z.M.rd n) A.1 (kr0 R)) (qsP (λz=>Zx z.E Za ld R ZL R (YG (z.M.rd n) A.2) (u_1 _) (kr0 R)) (qsP (λz=>Z8 z.E Za ld R (cbm func247) (zb _ au 129 U av) (kc R)) (q_m (λ_=>R) (qsP (λz=>Z8 z.E Za ld R (cbm func246) (Ay _ T U ((((j7 ++ N) ++ ([ZC (b.Label.length : Int)] : List UInt8)) ++ b.Label) ++ b.Body) ap (z.M.sl0) K aw) (kc R)) qs0)))))))))) ?_
  ·intro a w u H I
   have I:=I.pl4
   refine Zl (seg:=enc K) (cs':=enc K) H I Za R R R ZW (u_1 _) (zle flq) (s_1 _) (Zh flq) λw a I H=>Zj ?_
   obtain rfl:=o_1 c
   refine Zk ?_
   have I:=M.fst (l:=[_]) I
   exact ⟨H.s,I⟩
 rintro a w ⟨H,I⟩
 obtain rfl:=o_1 O
 have W : Z7 prog _ _ (.cell 4 32) _:=ZE H R ZW R I.ra0 (u_1 _) R
 exact p_3 (ZY H R W ⟨_,R,R,I.kept⟩)
def Vw (f : GCipher) (h : V16) (i : V16) (j : Int) (b : Int × List UInt8) : Option (Fl (Int × List UInt8) (List UInt8)) :=
 if decide ((b.2.length : Int) < j) then ((Wv ([i] : List V16)).bind λc=>(app 1 c ([ZC (wr (Int.tdiv b.1 256)),ZC (Int.tmod b.1 256)] : List UInt8)).bind λk=>(UZ f h (c ++ ([ZC (wr (Int.tdiv b.1 256)),ZC (Int.tmod b.1 256)] : List UInt8))).bind λe=>(WN e).bind λd=>(app 1 b.2 d).bind λl=>some (Fl.nx (wr (b.1 + 1),b.2 ++ d))) else (some (Fl.ex b.2))
def Tg (e : GCipher) (f : V16) (h : V16) (d : Int) : Option ((List UInt8)) :=
 (ZQ (Vw e f h d) (0,([] : List UInt8))).bind λi=>(slc i (0 : Int) d).bind λb=>(XI b).bind λc=>some c
theorem yJ (f : World) (e : GCipher) (k : V16) (j : V16) (m : Int) (r : List UInt8) (J : Tg e k j m = some r) :
  Calls prog 242 [Value.agg (enc e).toArray,Value.agg (enc k).toArray,Value.agg (enc j).toArray,vI m].toArray f (e_r λv w'=>(∃ X : Value,v = X ∧ Fr f w' [osl NoB r X] ∧ Kept (Old f) f w')):=by
 refine ce func242 ?_
 intro a H
 have I:=M.start f
 unfold Tg at J
 refine Zb (Z1 (cs:=cat [[vI e.Field],enc e.Box,enc e.Mix,enc e.Places,[vI e.Rounds]]) H I Za ld R R λY w a I H=>Z1 (cs:=enc k) H I Za ld R R λZ w a I H=>Z1 (cs:=enc j) H I Za ld R R λb5 w a I H=>Zc H R λa H=>Ze (Zb (ZM (xs:=[]) (l:=xv) (vs:=[]) H I Za ld R R o_2 ty5 R dd_ R λu7 w a I H=>Zc H R λa H=>Ze (s_2 (Zb (Zc H R λa H=>Ze ?_))))))
 obtain ⟨j9,n,d⟩:=p_1 J
 refine ZV (λa w=>∃ h : Value,Env 41 a [(3,vI m),(9,h)] ∧ M (Old f) f w [osl NoB j9 h]) ?_ ?_
 ·refine p_2 ?_
  have I:=I.pl3.pl3.pl3
  refine ZP (λ(c : Int × List UInt8) a w=>∃ i : Value,Env 41 a [(3,vI m),(4,ptr Y 0),(5,ptr Z 0),(6,ptr b5 0),(9,i),(10,vI c.1)] ∧ M (Old f) f w [raw b5 (enc j),raw Z (enc k),raw Y (cat [[vI e.Field],enc e.Box,enc e.Mix,enc e.Places,[vI e.Rounds]]),osl NoB c.2 i]) n ⟨u7,H.s,I⟩ ?_
  rintro c a w ⟨i,H,I⟩ ad b o
  unfold Vw at b
  refine s_2 (Zb (Zd H R λa H=>Yu H R o_2 (I.sl3) λa H=>Zd H R λa H=>Zn H R R R λa H=>Ze ?_))
  refine c_if H R b ?_ ?_
  ·intro q b
   refine u_2 (ZA (s_2 (p_2 (Zb (Zq H R ZL R I.ra0 (u_1 _) λa H=>ZM (xs:=[.tmp 19]) (l:=([j] : List V16)) (vs:=[Value.agg (enc j).toArray]) H I Za ld R R s_3 ZL R dd_ R λy w a I H=>?_)))))
   obtain ⟨t,z,b⟩:=p_1 b
   refine Zp H R Zh6 (JV _ ([j] : List V16) y (I.sl0) t z) ?_
   rintro ae w a ⟨_,rfl,hFr,hK⟩ H
   have I:=I.add hK hFr
   refine Zd H R λa H=>Zn H R R (qg _ _ dd_) λa H=>Y5 H Za ld R s_5 u_3 λa H=>Zd H R λa H=>Zn H R R (Jt _ _ dd_) λa H=>Y5 H Za ld R s_5 u_3 λa H=>ZM (xs:=[.tmp 24,.tmp 27]) (l:=([ZC (wr (Int.tdiv c.1 256)),ZC (Int.tmod c.1 256)] : List UInt8)) (vs:=[vB (ZC (wr (Int.tdiv c.1 256))),vB (ZC (Int.tmod c.1 256))]) H I Za ld R R o_2 ty5 R dd_ R λaf w a I H=>?_
   obtain ⟨ag,A,b⟩:=p_1 b
   obtain ⟨B,rfl⟩:=ZU A
   have I:=I.pl1
   refine ZX H I Za ld R R (I.sl1) o_2 ty5 R dd_ B λC w a I H=>Zc H R λa H=>Ze (t_1 (Zd H R λa H=>Zq H R KU R I.ra5 cq λa H=>Zq H R ZL R I.ra4 (u_1 _) λa H=>Zd H R λa H=>?_))
   obtain ⟨u,E,b⟩:=p_1 b
   refine c_k H I R (cbm func246) (Ay _ e k (t ++ ([ZC (wr (Int.tdiv c.1 256)),ZC (Int.tmod c.1 256)] : List UInt8)) C (I.sl0) u E) λw a I H=>?_
   obtain ⟨F,G,b⟩:=p_1 b
   refine Zp H R Zfq (Kz _ u F G) ?_
   rintro ah w a ⟨_,rfl,hFr,hK⟩ H
   have I:=I.add hK hFr
   obtain ⟨ai,K,b⟩:=p_1 b
   obtain ⟨L,rfl⟩:=ZU K
   have I:=I.pl7
   refine ZX H I Za ld R R (I.sl1) o_2 ty5 R dd_ L λN w a I H=>Zc H R λa H=>Zj (Yy (ZA (t_1 (Zd H R λa H=>Zn H R R R λa H=>Zc H R λa H=>Zj (Zk ?_)))))
   have I:=M.fst (l:=[_,_,_,_]) I.pl7.pl7.pl7
   exact ⟨_,ois b,N,H.s,I⟩
  intro q b
  refine s_4 (Zu (Zu (YE ?_)))
  obtain rfl:=o _ (ois b)
  refine Zk ?_
  have I:=M.fst (l:=[_]) I.pl3
  exact ⟨i,H.s,I⟩
 rintro a w ⟨h,H,I⟩
 refine ZA (Zb (Zd H R λa H=>Zd H R λa H=>?_))
 obtain ⟨O,x,d⟩:=p_1 d
 refine Q2 H Za ld R R R R R o_2 ty5 (I.sl0) x λa H=>?_
 obtain ⟨T,U,d⟩:=p_1 d
 refine Zp H R cb96 (QT _ O (Yg h (xi).toNat (m).toNat 1) (Xl (I.sl0) x) T U) ?_
 rintro W w a ⟨_,rfl,hFr,hK⟩ H
 have I:=I.add hK hFr
 refine Zc H R λa H=>Ze ?_
 obtain rfl:=o_1 d
 have I:=M.fst (l:=[_]) I
 exact p_3 (ZY H R (Zy H R) ⟨_,R,W,R,I.outF (ZK Yd),I.kept⟩)
def Vm (e : List UInt8) (f : List UInt8 × List UInt8) (b : List UInt8 × Int) : Option (Fl (List UInt8 × Int) (List UInt8)) :=
 if decide (b.2 < (e.length : Int)) then ((idx e b.2).bind λc=>(idx f.1 b.2).bind λd=>(app 1 b.1 ([c ^^^ d] : List UInt8)).bind λh=>some (Fl.nx ((b.1 ++ ([c ^^^ d] : List UInt8)),wr (b.2 + 1)))) else (some (Fl.ex b.1))
def XV (j : GVault) (f : GRecord) (h : List UInt8) : Option ((List UInt8)) :=
 ((Wh).bind λb=>(idx j.Keys f.Version).bind λc=>(Tg b c f.Nonce (h.length : Int)).bind λd=>some (d,([] : List UInt8)) : Option (List UInt8 × List UInt8)).bind λi=>(ZQ (Vm h i) (i.2,0)).bind λe=>some e
theorem K8 (d : World) (T : GVault) (e : Value) (y : Ro d T.Keys [e]) (m : Value) (ae : Ro d T.Records [m]) (n : Value) (af : Ro d T.Events [n]) (A : GRecord) (o : Value) (ag : Ro d A.Label [o]) (q : Value) (ah : Ro d A.Body [q]) (p2 : List UInt8) (t : Value) (c : Ro d p2 [t]) (r : List UInt8) (J : XV T A p2 = some r) :
  Calls prog 152 [vcV e m n T,vcR o q A,t].toArray d (e_r λv w'=>(∃ y1 : Value,v = y1 ∧ Fr d w' [osl NoB r y1] ∧ Kept (Old d) d w')):=by
 refine ce func152 ?_
 intro a H
 have I:=M.start d
 unfold XV at J
 refine Zb (Z1 (cs:=cV e m n T) H I Za ld R R λb1 w a I H=>Z1 (cs:=cR o q A) H I Za ld R R λb3 w a I H=>Zc H R λa H=>Ze ?_)
 obtain ⟨j5,i,aj⟩:=p_1 J
 refine ZI (λa w=>∃ u8 C : Value,Env 42 a [(2,t),(7,u8),(8,C)] ∧ M (Old d) d w [osl NoB j5.1 u8,osl NoB j5.2 C]) ?_ ?_
 ·obtain ⟨X,ak,i⟩:=p_1 i
  obtain ⟨al,L,i⟩:=bix i
  obtain ⟨U,am,i⟩:=p_1 i
  refine Ys (its:=[raw b3 (cR o q A),raw b1 (cV e m n T)]) (mk:=([mkO 11 (λv=>osl NoB U v),mkO 12 (λv=>osl NoB (xv : List UInt8) v)] : Mk)) [10,11,12,13,14,15,16,17,18,19,20,21,22,7] Yx R R dd_ R H (λu=>M.qE (M.qE (M.q0 I.drew u) emO) emO) (qsP (λz=>Z8 z.E Za ld R Zfg (QY _  X ak) (kc R)) (qsP (λz=>Zi z.E Za ld R (Xw) (kr0 R)) (qsP (λz=>Zz (v:=e) z.E Za ld R TF R (at_0 (z.M.ra1)) (kr0 R)) (qsP (λz=>Zi z.E Za ld R (TB) (kr0 R)) (qsP (λz=>Zz (v:=(vI A.Version)) z.E Za ld R ty2 R (at_1 (z.M.ra0)) (kr0 R)) (qsP (λz=>Z6 z.E Za ld R R s_3 ZL (z.M.rd y) L.1 (kr0 R)) (qsP (λz=>Zx z.E Za ld R ZL R (YG (z.M.rd y) L.2) (u_1 _) (kr0 R)) (qsP (λz=>Zi z.E Za ld R (Ho) (kr0 R)) (qsP (λz=>Zx z.E Za ld R ZL R (at_2 (z.M.ra0)) (u_1 _) (kr0 R)) (q_m (λ_=>R) (qsP (λz=>W2 z.E Za ld R o_2 (z.M.rd c) (kr0 R)) (q_t ?_ (q_t ?_ (qsD (ds:=[11]) (f:=λus=>(us.getD 0 undef)) ?_ qs0)))))))))))))) ?_
  ·intro a w h D z
   have H:=z.E
   have hD : D 11 = false:=z.F
   have hM0:=z.M
   have I:=z.M
   refine Zp H R (cbm func242) (yJ _ X al A.Nonce (p2.length : Int) U am) ?_
   rintro _ w a ⟨_,rfl,hFr,hK⟩ H
   have I:=hM0.add hK hFr
   exact ⟨_,_,R,H,M.qFill (mk1:=[]) (mk2:=[_]) (f:=(λv=>osl NoB U v)) I R hD,trivial⟩
  ·intro a w h D z
   have H:=z.E
   have hD : D 12 = false:=z.F
   have I:=z.M
   exact ZM (xs:=[]) (l:=xv) (vs:=[]) H I Za ld R R o_2 ty5 R dd_ R λay w a I H=>⟨_,_,R,H,M.qFill (mk1:=[_]) (mk2:=[]) (f:=(λv=>osl NoB (xv : List UInt8) v)) I R hD,trivial⟩
  ·intro a w h D z
   have H:=z.E
   have W : D 11 = true:=z.p 0 _ R R
   exact Zc H R λa H=>⟨p_5 _ _,AF W yn,_,R,H⟩
  intro a w h D H I hG x
  have W:=x 11 dd_
  have an:=x 12 dd_
  have I:=(I.sure (pre:=[_,_]) W).sure (pre:=[_,_,_]) an
  refine Zc H R λa H=>Zj ?_
  obtain rfl:=o_1 i
  refine Zk ?_
  have I:=M.fst (l:=[_,_]) I.pl3.pl3
  exact ⟨h 11,h 12,H.s,I⟩
 rintro a w ⟨u8,C,H,I⟩
 refine s_2 (Zb (Zc H R λa H=>Ze ?_))
 obtain ⟨ao,Y,Z⟩:=p_1 aj
 refine ZV (λa w=>∃ G : Value,Env 42 a [(8,G)] ∧ M (Old d) d w [osl NoB ao G]) ?_ ?_
 ·refine p_2 ?_
  refine ZP (λ(K : List UInt8 × Int) a w=>∃ B : Value,Env 42 a [(2,t),(7,u8),(8,B),(9,vI K.2)] ∧ M (Old d) d w [osl NoB j5.1 u8,osl NoB K.1 B]) Y ⟨C,H.s,I⟩ ?_
  rintro K a w ⟨B,H,I⟩ az b aa
  unfold Vm at b
  refine s_2 (Zb (Zd H R λa H=>Zd H R λa H=>Yu H R o_2 (I.rd c) λa H=>Zn H R R R λa H=>Ze ?_))
  refine c_if H R b ?_ ?_
  ·intro ab b
   refine u_2 (ZA (s_2 (p_2 ?_)))
   obtain ⟨j,N,b⟩:=bix b
   obtain ⟨k,O,b⟩:=bix b
   refine Ys (its:=[osl NoB j5.1 u8,osl NoB K.1 B]) (mk:=([mkO 10 (λv=>osl NoB (([j ^^^ k] : List UInt8) : List UInt8) v)] : Mk)) [29,30,31,32,33,34,35,36,37,38,39] Yx R R dd_ R H (λu=>M.qE (M.q0 I.drew u) emO) (q_m (λ_=>R) (q_m (λ_=>R) (q_m (λ_=>R) (qsP (λz=>Z6 z.E Za ld R R o_2 ty5 (z.M.rd c) N.1 (kr0 R)) (qsP (λz=>Zz (v:=(vB j)) z.E Za ld R ty5 R (YG (z.M.rd c) N.2) (kr0 R)) (q_m (λ_=>R) (q_m (λ_=>R) (qsP (λz=>Z6 z.E Za ld R R o_2 ty5 (z.M.sl0) O.1 (kr0 R)) (qsP (λz=>Zz (v:=(vB k)) z.E Za ld R ty5 R (YG (z.M.sl0) O.2) (kr0 R)) (qsP (v:=(vB (j ^^^ k))) (λz=>Yc z.E Za ld R R (Uj j k) (kr0 R)) (q_t ?_ qs0))))))))))) ?_
   ·intro a w ac D z
    have H:=z.E
    have hD : D 10 = false:=z.F
    have I:=z.M
    exact ZM (xs:=[.tmp 38]) (l:=([j ^^^ k] : List UInt8)) (vs:=[vB (j ^^^ k)]) H I Za ld R R o_2 ty5 R dd_ R λa0 w a I H=>⟨_,_,R,H,M.qFill (mk1:=[]) (mk2:=[]) (f:=(λv=>osl NoB (([j ^^^ k] : List UInt8) : List UInt8) v)) I R hD,trivial⟩
   intro a w ac D H I hG x
   have ap:=x 10 dd_
   have I:=I.sure (pre:=[_,_]) ap
   obtain ⟨a1,aq,b⟩:=p_1 b
   obtain ⟨ar,rfl⟩:=ZU aq
   have I:=I.pl1
   refine ZX H I Za ld R R (I.sl2) o_2 ty5 R dd_ ar λau w a I H=>Zc H R λa H=>Zj (Yy (ZA (t_1 (Zd H R λa H=>Zn H R R R λa H=>Zc H R λa H=>Zj (Zk ?_)))))
   have I:=M.fst (l:=[_,_]) I.pl1
   exact ⟨_,ois b,au,H.s,I⟩
  intro ab b
  refine s_4 (Zu (Zu (YE ?_)))
  obtain rfl:=aa _ (ois b)
  refine Zk ?_
  have I:=M.fst (l:=[_]) I.pl1
  exact ⟨B,H.s,I⟩
 rintro a w ⟨G,H,I⟩
 refine ZA (Zb (Zd H R λa H=>Zc H R λa H=>Ze ?_))
 obtain rfl:=o_1 Z
 exact p_3 (ZY H R (Zy H R) ⟨_,R,G,R,I.outF (ZK Yd),I.kept⟩)
def Vu (b : GVault) (m : Int) : Option (List UInt8 × Int) :=
 (X9 b).bind λn=>if !n then (some ([],1)) else ((X8 b m).bind λc=>if decide (c < 0) then (some ([],4)) else (((idx b.Records c).bind λe=>(X2 b e).bind λf=>(idx b.Records c).bind λh=>some (!decide (f = h.Tag)) : Option (Bool)).bind λi=>if i then (some ([],5)) else (((idx b.Records c).bind λj=>(idx b.Records c).bind λk=>(XV b j k.Body).bind λl=>some (l,0) : Option (List UInt8 × Int)).bind λd=>some (d.1,d.2))))
theorem Hd (n : World) (m : GVault) (c : Value) (i : Ro n m.Keys [c]) (d : Value) (b : Ro n m.Records [d]) (e : Value) (j : Ro n m.Events [e]) (Y : Int) (r : List UInt8 × Int) (J : Vu m Y = some r) :
  Calls prog 58 [vcV c d e m,vI Y].toArray n (e_r λv w'=>(∃ y1 : Value,v = (Value.tuple [y1,vI r.2].toArray) ∧ Fr n w' [osl NoB r.1 y1] ∧ Kept (Old n) n w')):=by
 refine ce func58 ?_
 intro a H
 have I:=M.start n
 unfold Vu at J
 refine Zb (Z1 (cs:=cV c d e m) H I Za ld R R λb1 w a I H=>Zc H R λa H=>Zc H R λa H=>Ze (s_2 (Zb (Zq H R ZG R I.ra0 cq λa H=>?_))))
 obtain ⟨r3,e4,J⟩:=p_1 J
 refine c_k H I R yN (UG _ m c (I.rdo i) d (I.rdo b) e (I.rdo j) r3 e4) λw a I H=>?_
 refine Kp H R λa H=>Ze ?_
 refine c_if H R J ?_ ?_
 ·intro Z J
  refine Zb (Zc H R λa H=>Zc H R λa H=>Ze ?_)
  have I:=M.nilS (α:=UInt8) NoB noB I
  obtain rfl:=o_1 J
  have I:=M.fst (l:=[_]) I
  exact p_3 (ZJ (Yq H R (Zy H R) (Zy H R) ⟨_,R,xd,R,I.outF (ZK Yd),I.kept⟩))
 intro Z J
 refine u_2 (ZA (Zb (Zq H R ZG R I.ra0 cq λa H=>Zd H R λa H=>?_)))
 obtain ⟨r7,e8,J⟩:=p_1 J
 refine c_k H I R Zc7 (T2 _ m c (I.rdo i) d (I.rdo b) e (I.rdo j) Y r7 e8) λw a I H=>?_
 refine Zc H R λa H=>Ze (s_2 (Zb (Zd H R λa H=>Zn H R R R λa H=>Ze ?_)))
 refine c_if H R J ?_ ?_
 ·intro aa J
  refine Zb (Zc H R λa H=>Zc H R λa H=>Ze ?_)
  have I:=M.nilS (α:=UInt8) NoB noB I
  obtain rfl:=o_1 J
  have I:=M.fst (l:=[_]) I
  exact p_3 (ZJ (Yq H R (Zy H R) (Zy H R) ⟨_,R,xd,R,I.outF (ZK Yd),I.kept⟩))
 intro aa J
 refine u_2 (ZA (s_2 ?_))
 obtain ⟨ab,f,k⟩:=p_1 J
 refine ZI (λa w=>Env 42 a [(2,ptr b1 0),(6,vI r7),(28,vT ab)] ∧ M (Old n) n w [raw b1 (cV c d e m)]) ?_ ?_
 ·obtain ⟨ac,o,f⟩:=bix f
  obtain ⟨a0,C,F⟩:=Y2 b o.2 -- ^
  obtain ⟨ad,ae,rfl,af,ag⟩:=Yl C -- ^
  obtain ⟨ah,ai,f⟩:=p_1 f
  obtain ⟨B,q,f⟩:=bix f
  obtain ⟨a1,G,K⟩:=Y2 b q.2 -- ^
  obtain ⟨aj,ak,rfl,a7,a8⟩:=Yl G -- ^
  refine Z9 [15,16,17,18,19,20,21,22,23,24,25,26,27,28] Yx R R dd_ R H I (qsP (λz=>Zx z.E Za ld R ZG R (z.M.ra0) cq (kr0 R)) (qsP (λz=>Zi z.E Za ld R (Ye) (kr0 R)) (qsP (λz=>Zz (v:=d) z.E Za ld R Xr R (at_2 (z.M.ra0)) (kr0 R)) (q_m (λ_=>R) (qsP (λz=>Z6 z.E Za ld R R o_3 Yk (z.M.rd b) o.1 (kr0 R)) (qsP (λz=>Zx z.E Za ld R Yk R (z.M.atk F (XM b o.2)) cq (kr0 R)) (qsP (λz=>Z8 z.E Za ld R Zck (Ks _ m c (z.M.rdo i) d (z.M.rdo b) e (z.M.rdo j) ac ad (z.M.rdo af) ae (z.M.rdo ag) ah ai) (kc R)) (qsP (λz=>Zi z.E Za ld R (Ye) (kr0 R)) (qsP (λz=>Zz (v:=d) z.E Za ld R Xr R (at_2 (z.M.ra0)) (kr0 R)) (q_m (λ_=>R) (qsP (λz=>Z6 z.E Za ld R R o_3 Yk (z.M.rd b) q.1 (kr0 R)) (qsP (λz=>Zi z.E Za ld R (Qg) (kr0 R)) (qsP (λz=>Zx z.E Za ld R ZW R (at_5 (z.M.atk K (XM b q.2))) (u_1 _) (kr0 R)) (qsP (λz=>Jx z.E Za ld R R (XX t_4 ty5 R false R dd_ (Xp u_3)) dd_ (by kernel_rfl) (kr0 R)) qs0)))))))))))))) ?_
  ·intro a w u H I
   refine Zj ?_
   obtain rfl:=o_1 f
   refine Zk ?_
   exact ⟨H.s,I⟩
 rintro a w ⟨H,I⟩
 refine c_if H R k ?_ ?_
 ·intro L k
  refine Zb (Zc H R λa H=>Zc H R λa H=>Ze ?_)
  have I:=M.nilS (α:=UInt8) NoB noB I
  obtain rfl:=o_1 k
  have I:=M.fst (l:=[_]) I
  exact p_3 (ZJ (Yq H R (Zy H R) (Zy H R) ⟨_,R,xd,R,I.outF (ZK Yd),I.kept⟩))
 intro L k
 refine u_2 (ZA ?_)
 obtain ⟨N,h,O⟩:=p_1 k
 refine ZI (λa w=>∃ y : Value,Env 42 a [(4,y),(5,vI N.2)] ∧ M (Old n) n w [osl NoB N.1 y]) ?_ ?_
 ·obtain ⟨al,t,h⟩:=bix h
  obtain ⟨a2,T,U⟩:=Y2 b t.2 -- ^
  obtain ⟨am,an,rfl,ao,ap⟩:=Yl T -- ^
  obtain ⟨A,x,h⟩:=bix h
  obtain ⟨a3,W,X⟩:=Y2 b x.2 -- ^
  obtain ⟨aq,u64,rfl,a9,ar⟩:=Yl W -- ^
  refine Z9 [29,30,31,32,33,34,35,36,37,38,39,40] Yx R R dd_ R H I (qsP (λz=>Zx z.E Za ld R ZG R (z.M.ra0) cq (kr0 R)) (qsP (λz=>Zi z.E Za ld R (Ye) (kr0 R)) (qsP (λz=>Zz (v:=d) z.E Za ld R Xr R (at_2 (z.M.ra0)) (kr0 R)) (q_m (λ_=>R) (qsP (λz=>Z6 z.E Za ld R R o_3 Yk (z.M.rd b) t.1 (kr0 R)) (qsP (λz=>Zx z.E Za ld R Yk R (z.M.atk U (XM b t.2)) cq (kr0 R)) (qsP (λz=>Zi z.E Za ld R (Ye) (kr0 R)) (qsP (λz=>Zz (v:=d) z.E Za ld R Xr R (at_2 (z.M.ra0)) (kr0 R)) (q_m (λ_=>R) (qsP (λz=>Z6 z.E Za ld R R o_3 Yk (z.M.rd b) x.1 (kr0 R)) (qsP (λz=>Zi z.E Za ld R (Qh) (kr0 R)) (qsP (λz=>Zz (v:=u64) z.E Za ld R Wo R (at_4 (z.M.atk X (XM b x.2))) (kr0 R)) qs0)))))))))))) ?_
  ·intro a w u H I
   obtain ⟨au,av,h⟩:=p_1 h
   refine Zp H R Zik (K8 _ m c (I.rdo i) d (I.rdo b) e (I.rdo j) al am (I.rdo ao) an (I.rdo ap) A.Body u64 (I.rdo ar) au av) ?_
   rintro aw w a ⟨_,rfl,hFr,hK⟩ H
   have I:=I.add hK hFr
   refine Zc H R λa H=>Zc H R λa H=>Zj ?_
   obtain rfl:=o_1 h
   refine Zk ?_
   have I:=M.fst (l:=[_]) I
   exact ⟨aw,H.s,I⟩
 rintro a w ⟨y,H,I⟩
 obtain rfl:=o_1 O
 exact p_3 (Yq H R (Zy H R) (Zy H R) ⟨_,R,y,R,I.outF (ZK Yd),I.kept⟩)
def TM (b : GVault) (h : V16) (c : Int) : Option (Fl Int (Fl Unit Bool)) :=
 if decide (c < (b.Records.length : Int)) then (((idx b.Records c).bind λd=>if d.Version == (wr ((b.Keys.length : Int) - 1)) then ((idx b.Records c).bind λe=>some (decide (e.Nonce = h))) else (some false) : Option (Bool)).bind λf=>if f then (some (Fl.ex (Fl.ex true))) else (some (Fl.nx (wr (c + 1))))) else (some (Fl.ex (Fl.nx ())))
def Tc (b : GVault) (c : V16) : Option (Bool) :=
 (ZQ (TM b c) 0).bind λd=>d.el (λe=>some false) (λr=>some r)
theorem Bv (n : World) (m : GVault) (d : Value) (o : Ro n m.Keys [d]) (f : Value) (c : Ro n m.Records [f]) (i : Value) (U : Ro n m.Events [i]) (B : V16) (r : Bool) (J : Tc m B = some r) :
  Calls prog 150 [vcV d f i m,Value.agg (enc B).toArray].toArray n (Rt n (vT r)):=by
 refine ce func150 ?_
 intro a H
 have I:=M.start n
 unfold Tc at J
 refine Zb (Z1 (cs:=cV d f i m) H I Za ld R R λO w a I H=>Z1 (cs:=enc B) H I Za ld R R λT w a I H=>Zc H R λa H=>Ze (s_2 (Zb (Zc H R λa H=>Ze ?_))))
 obtain ⟨j5,W,x⟩:=p_1 J
 refine ZV (λa w=>∃ Z : Unit,j5 = Fl.nx Z ∧ Env 34 a [] ∧ M (Old n) n w []) ?_ ?_
 ·refine p_2 ?_
  refine ZP (λ(X : Int) a w=>Env 34 a [(2,ptr O 0),(3,ptr T 0),(5,vI X)] ∧ M (Old n) n w [raw T (enc B),raw O (cV d f i m)]) W ⟨H.s,I⟩ ?_
  rintro X a w ⟨H,I⟩ ad h y
  unfold TM at h
  refine s_2 (Zb (Zd H R λa H=>Zm H R (Ye) λa H=>ZB (v:=f) H R Xr R (at_2 I.ra1) λa H=>Yu H R o_3 (I.rd c) λa H=>Zn H R R R λa H=>Ze ?_))
  refine c_if H R h ?_ ?_
  ·intro C h
   refine u_2 (ZA (s_2 (p_2 ?_)))
   obtain ⟨Y,e,j⟩:=p_1 h
   refine ZI (λa w=>Env 34 a [(2,ptr O 0),(3,ptr T 0),(5,vI X),(33,vT Y)] ∧ M (Old n) n w [raw T (enc B),raw O (cV d f i m)]) ?_ ?_
   ·obtain ⟨q,k,e⟩:=bix e
    obtain ⟨aa,F,A⟩:=Y2 c k.2 -- ^
    obtain ⟨ae,af,rfl,ag,ah⟩:=Yl F -- ^
    refine Yj (q.Version == (wr ((m.Keys.length : Int) - 1))) (λb=>?_) (λb=>?_)
    ·have e:=Zt e b
     obtain ⟨G,t,e⟩:=bix e
     obtain ⟨ab,K,L⟩:=Y2 c t.2 -- ^
     obtain ⟨ai,aj,rfl,ak,al⟩:=Yl K -- ^
     refine Z9 [13,14,15,16,17,18,19,20,21,22,23,24,25,26,27,28,29,30,31,32,33] Yx R R dd_ R H I (qsP (λz=>Zi z.E Za ld R (Ye) (kr0 R)) (qsP (λz=>Zz (v:=f) z.E Za ld R Xr R (at_2 (z.M.ra1)) (kr0 R)) (q_m (λ_=>R) (qsP (λz=>Z6 z.E Za ld R R o_3 Yk (z.M.rd c) k.1 (kr0 R)) (qsP (λz=>Zi z.E Za ld R (TB) (kr0 R)) (qsP (λz=>Zz (v:=(vI q.Version)) z.E Za ld R ty2 R (at_1 (z.M.atk A (XM c k.2))) (kr0 R)) (qsP (λz=>Zi z.E Za ld R (Xw) (kr0 R)) (qsP (λz=>Zz (v:=d) z.E Za ld R TF R (at_0 (z.M.ra1)) (kr0 R)) (qsP (λz=>W2 z.E Za ld R s_3 (z.M.rd o) (kr0 R)) (qsP (v:=(vI (wr ((m.Keys.length : Int) - 1)))) (λz=>Yc z.E Za ld R R R (kr0 R)) (qsP (λz=>Yc z.E Za ld R R R (kr0 R)) (q_m (λ_=>R) (qsP (λz=>Zi z.E (Zg z.E R (lkb R b)) dd_ R (Ye) (kr0 R)) (qsP (λz=>Zz (v:=f) z.E (Zg z.E R (lkb R b)) dd_ R Xr R (at_2 (z.M.ra1)) (kr0 R)) (qsP (λz=>Zo z.E (Zg z.E R (lkb R b)) dd_ R (kr0 R)) (qsP (λz=>Z6 z.E (Zg z.E R (lkb R b)) dd_ R R o_3 Yk (z.M.rd c) t.1 (kr0 R)) (qsP (λz=>Zi z.E (Zg z.E R (lkb R b)) dd_ R (Ho) (kr0 R)) (qsP (λz=>Zx z.E (Zg z.E R (lkb R b)) dd_ R ZL R (at_2 (z.M.atk L (XM c t.2))) (u_1 _) (kr0 R)) (qsP (λz=>Zx z.E (Zg z.E R (lkb R b)) dd_ R ZL R (z.M.ra0) (u_1 _) (kr0 R)) (qsP (λz=>qK z.E (Zg z.E R (lkb R b)) dd_ R R (XX o_4 ty5 R false R dd_ (Xp u_3)) dd_ (by kernel_rfl) (kr0 R)) (qsP (λz=>Q8 z.E Za ld (lkb R b) R (kr0 R)) qs0))))))))))))))))))))) ?_
     ·intro a w u H I
      refine Zj ?_
      obtain rfl:=o_1 e
      refine Zk ?_
      exact ⟨H.s,I⟩
    have e:=Zs e b
    refine Z9 [13,14,15,16,17,18,19,20,21,22,23,24,25,26,27,28,29,30,31,32,33] Yx R R dd_ R H I (qsP (λz=>Zi z.E Za ld R (Ye) (kr0 R)) (qsP (λz=>Zz (v:=f) z.E Za ld R Xr R (at_2 (z.M.ra1)) (kr0 R)) (q_m (λ_=>R) (qsP (λz=>Z6 z.E Za ld R R o_3 Yk (z.M.rd c) k.1 (kr0 R)) (qsP (λz=>Zi z.E Za ld R (TB) (kr0 R)) (qsP (λz=>Zz (v:=(vI q.Version)) z.E Za ld R ty2 R (at_1 (z.M.atk A (XM c k.2))) (kr0 R)) (qsP (λz=>Zi z.E Za ld R (Xw) (kr0 R)) (qsP (λz=>Zz (v:=d) z.E Za ld R TF R (at_0 (z.M.ra1)) (kr0 R)) (qsP (λz=>W2 z.E Za ld R s_3 (z.M.rd o) (kr0 R)) (qsP (v:=(vI (wr ((m.Keys.length : Int) - 1)))) (λz=>Yc z.E Za ld R R R (kr0 R)) (qsP (λz=>Yc z.E Za ld R R R (kr0 R)) (q_m (λ_=>R) (qsP (λz=>Zf z.E R (lkb R b) R dd_ (kr0 R)) (qsP (λz=>Zf z.E R (lkb R b) R dd_ (kr0 R)) (qsP (λz=>Zf z.E R (lkb R b) R dd_ (kr0 R)) (qsP (λz=>Zf z.E R (lkb R b) R dd_ (kr0 R)) (qsP (λz=>Zf z.E R (lkb R b) R dd_ (kr0 R)) (qsP (λz=>Zf z.E R (lkb R b) R dd_ (kr0 R)) (qsP (λz=>Zf z.E R (lkb R b) R dd_ (kr0 R)) (qsP (λz=>Zf z.E R (lkb R b) R dd_ (kr0 R)) (qsP (λz=>TH z.E Za ld (lkb R b) R (kr0 R)) qs0))))))))))))))))))))) ?_
    ·intro a w u H I
     refine Zj ?_
     obtain rfl:=o_1 e
     refine Zk ?_
     exact ⟨H.s,I⟩
   rintro a w ⟨H,I⟩
   refine c_if H R j ?_ ?_
   ·intro N j
    refine Zb (Zc H R λa H=>Ze ?_)
    obtain rfl:=y _ (ois j)
    obtain rfl:=o_1 x
    exact p_3 (Xa (ZJ (ZJ (Xa (ZJ (ZJ (kr1 H R R I.kept)))))))
   intro N j
   refine u_2 (Yy (ZA (t_1 (Zd H R λa H=>Zn H R R R λa H=>Zc H R λa H=>Zj (Zk ?_)))))
   exact ⟨_,ois j,H.s,I⟩
  intro C h
  refine s_4 (Zu (Zu (YE ?_)))
  obtain rfl:=y _ (ois h)
  refine Zk ?_
  have I:=M.fst (l:=[]) I
  exact ⟨(),R,H.sub trivial,I⟩
 rintro a w ⟨Z,ht,H,I⟩
 subst ht
 have x:=KT x
 refine ZA (Zb (Zc H R λa H=>Ze ?_))
 obtain rfl:=o_1 x
 exact p_3 (kr1 H R R I.kept)
def UB (c : GVault) (f : Int) (j : V16) : Option (GVault × Int) :=
 (Vu c f).bind λk=>if k.2 != 0 then (some ((⟨[],0,[],[],Vector.replicate 32 (0 : UInt8)⟩ : GVault),k.2)) else ((Tc c j).bind λl=>if l then (some ((⟨[],0,[],[],Vector.replicate 32 (0 : UInt8)⟩ : GVault),5)) else (if (c.Events.length : Int) == 60 then (some ((⟨[],0,[],[],Vector.replicate 32 (0 : UInt8)⟩ : GVault),3)) else ((VS c).bind λb=>(X8 c f).bind λd=>(idx b.Records d).bind λe=>(idx b.Records d).bind λn=>(XV c (⟨f,wr ((c.Keys.length : Int) - 1),j,e.Label,[],Vector.replicate 32 (0 : UInt8)⟩ : GRecord) k.1).bind λh=>(X2 c (⟨f,wr ((c.Keys.length : Int) - 1),j,e.Label,h,Vector.replicate 32 (0 : UInt8)⟩ : GRecord)).bind λi=>(idx b.Records d).bind λo=>(XP (⟨b.Keys,b.Next,b.Records.set (d).toNat (⟨f,wr ((c.Keys.length : Int) - 1),j,e.Label,h,i⟩ : GRecord),b.Events,b.Head⟩ : GVault) 4 f i).bind λm=>some (m,0))))
theorem Bb (W : World) (n : GVault) (h : Value) (q : Ro W n.Keys [h]) (j : Value) (A : Ro W n.Records [j]) (m : Value) (y : Ro W n.Events [m]) (B : Int) (C : V16) (r : GVault × Int) (J : UB n B C = some r) :
  Calls prog 64 [vcV h j m n,vI B,Value.agg (enc C).toArray].toArray W (e_r λv w'=>(∃ y1 y2 y3 : Value,v = (Value.tuple [vcV y1 y2 y3 r.1,vI r.2].toArray) ∧ Fr W w' [osl NoB r.1.Keys y1,osl NoB r.1.Records y2,osl NoB r.1.Events y3] ∧ Kept (Old W) W w')):=by
 refine ce func64 ?_
 intro a H
 have I:=M.start W
 unfold UB at J
 refine Zb (Z1 (cs:=cV h j m n) H I Za ld R R λb1 w a I H=>Z1 (cs:=enc C) H I Za ld R R λb3 w a I H=>Zv H I ZG λb5 w a I H=>Zc H R λa H=>Ze (Zb (Zq H R ZG R I.ra2 cq λa H=>Zd H R λa H=>?_)))
 obtain ⟨r7,e8,J⟩:=p_1 J
 refine Zp H R (cbm func58) (Hd _ n h (I.rdo q) j (I.rdo A) m (I.rdo y) B r7 e8) ?_
 rintro v w a ⟨u9,rfl,hFr,hK⟩ H
 have I:=I.add hK hFr
 refine Zd H R λa H=>ZF H Za ld R R λa H=>ZF H Za ld R R λa H=>Zc H R λa H=>Zc H R λa H=>Ze (s_2 (p_2 (Zb (Zd H R λa H=>Zn H R R R λa H=>Zc H R λa H=>Ze ?_))))
 refine c_if H R J ?_ ?_
 ·intro ad J
  refine Zb (Yi (parts:=[]) (vs:=[]) (cs:=cat xa) H Za ld R R ZG Ju YF λa H=>Zd H R λa H=>?_)
  have I:=I.pl1
  refine Zl (seg:=cat xa) (cs':=cat xa) H I Za R R R ZG cq (q_1 cq cq) (ZD (cc1 ZZ (cc1 (s_1 xi) (cc1 ZZ (cc1 ZZ (cc1 (s_1 _) cc0)))))) (q_2 cq cq) λw a I H=>Zc H R λa H=>Ze ?_
  have I:=M.nilS (α:=GEvent) NoB noB (M.nilS (α:=GRecord) NoB noB (M.nilS (α:=V16) NoB noB I))
  obtain rfl:=o_1 J
  have ae : Z7 prog _ _ (.cell 6 79) _:=ZE H R ZG R I.ra3 cq R
  have I:=M.fst (l:=[_,_,_]) I.pl1.pl2
  exact p_3 (Xa (ZJ (Yq H R ae (Zy H R) ⟨_,R,xd,xd,xd,R,I.outF (ZK (ZK (ZK Yd))),I.kept⟩)))
 intro ad J
 refine Zb (Zq H R ZG R I.ra3 cq λa H=>Zq H R ZL R I.ra2 (u_1 _) λa H=>?_)
 obtain ⟨aw,ax,J⟩:=p_1 J
 refine c_k H I R (cbm func150) (Bv _ n h (I.rdo q) j (I.rdo A) m (I.rdo y) C aw ax) λw a I H=>?_
 refine Zc H R λa H=>Ze ?_
 refine c_if H R J ?_ ?_
 ·intro af J
  refine Zb (Yi (parts:=[]) (vs:=[]) (cs:=cat xa) H Za ld R R ZG Ju YF λa H=>?_)
  have I:=I.pl1
  refine Zl (seg:=cat xa) (cs':=cat xa) H I Za R R R ZG cq (q_1 cq cq) (ZD (cc1 ZZ (cc1 (s_1 xi) (cc1 ZZ (cc1 ZZ (cc1 (s_1 _) cc0)))))) (q_2 cq cq) λw a I H=>Zc H R λa H=>Ze ?_
  have I:=M.nilS (α:=GEvent) NoB noB (M.nilS (α:=GRecord) NoB noB (M.nilS (α:=V16) NoB noB I))
  obtain rfl:=o_1 J
  have ag : Z7 prog _ _ (.cell 6 79) _:=ZE H R ZG R I.ra3 cq R
  have I:=M.fst (l:=[_,_,_]) I.pl1.pl2
  exact p_3 (Xa (ZJ (Yq H R ag (Zy H R) ⟨_,R,xd,xd,xd,R,I.outF (ZK (ZK (ZK Yd))),I.kept⟩)))
 intro af J
 refine Zb (Zm H R (XA) λa H=>ZB (v:=m) H R T3 R (at_3 I.ra3) λa H=>Yu H R p_4 (I.rd y) λa H=>Zn H R R R λa H=>Zc H R λa H=>Ze ?_)
 refine c_if H R J ?_ ?_
 ·intro ah J
  refine Zb (Yi (parts:=[]) (vs:=[]) (cs:=cat xa) H Za ld R R ZG Ju YF λa H=>?_)
  have I:=I.pl1
  refine Zl (seg:=cat xa) (cs':=cat xa) H I Za R R R ZG cq (q_1 cq cq) (ZD (cc1 ZZ (cc1 (s_1 xi) (cc1 ZZ (cc1 ZZ (cc1 (s_1 _) cc0)))))) (q_2 cq cq) λw a I H=>Zc H R λa H=>Ze ?_
  have I:=M.nilS (α:=GEvent) NoB noB (M.nilS (α:=GRecord) NoB noB (M.nilS (α:=V16) NoB noB I))
  obtain rfl:=o_1 J
  have ai : Z7 prog _ _ (.cell 6 79) _:=ZE H R ZG R I.ra3 cq R
  have I:=M.fst (l:=[_,_,_]) I.pl1.pl2
  exact p_3 (Xa (ZJ (Yq H R ai (Zy H R) ⟨_,R,xd,xd,xd,R,I.outF (ZK (ZK (ZK Yd))),I.kept⟩)))
 intro ah J
 refine u_2 (Yy (ZA (s_2 ?_)))
 obtain ⟨i,ay,J⟩:=p_1 J
 obtain ⟨Y,az,J⟩:=p_1 J
 refine Ys (its:=[osl NoB r7.1 u9,raw b5 xh,raw b3 (enc C),raw b1 (cV h j m n)]) (mk:=([mkO 1 (λv=>own NoB i (Value.cells v).toList),mkO 5 (λv=>Wk v xh)] : Mk)) [35,36,37,38,39,10] Yx R R dd_ R H (λu=>M.qE (M.qE (M.q0 I.drew u) emO) emO) (qsP (λz=>Zx z.E Za ld R ZG R (z.M.ra3) cq (kr0 R)) (qsM (pr:=λv=>∃ cs,v = .agg cs) ?_ (qsP (λz=>Zx z.E Za ld R ZG R (z.M.ra3) cq (kr0 R)) (q_m (λ_=>R) (qsP (λz=>Z8 z.E Za ld R Zc7 (T2 _ n h (z.M.rdo q) j (z.M.rdo A) m (z.M.rdo y) B Y az) (kc R)) (q_t ?_ qs0)))))) ?_
 ·intro a w O D z
  have H:=z.E
  have hD : D 1 = false:=z.F
  have hM0:=z.M
  have I:=z.M
  refine Zp H R Zfu (Jj _ n h (I.rdo q) j (I.rdo A) m (I.rdo y) i ay) ?_
  rintro _ w a ⟨bh,bi,u32,rfl,hFr,hK⟩ H
  have I:=K5 (x:=i) (hM0.add hK hFr) sio sio sio
  exact ⟨_,_,R,H,M.qFill (mk1:=[]) (mk2:=[_]) (f:=(λv=>own NoB i (Value.cells v).toList)) I R hD,⟨_,R⟩⟩
 ·intro a w O D z
  have H:=z.E
  have hD : D 5 = false:=z.F
  have I:=z.M
  refine Zv H I ZG λbj w a I H=>?_
  have I:=I.pack1 (it:=Wk _ xh) (λw w' fp ⟨b',e,k⟩ hb=>⟨b',e,YN w w' fp k hb⟩) (λfp k=>⟨_,R,k⟩)
  exact ⟨_,_,R,H,M.qFill (mk1:=[_]) (mk2:=[]) (f:=λv=>Wk v xh) I R hD,trivial⟩
 intro a w O D H I hG N
 have d1:=N 1 dd_
 have d5:=N 5 dd_
 have I:=((I.sure (pre:=[_,_,_,_]) d1).sure (pre:=[_,_,_,_,_]) d5).pl
 obtain ⟨_,⟨aj,ak,_⟩,_⟩:=I.head
 have I:=I.pack1 YN (it:=raw aj xh) (λfp ⟨b2,Z,k2⟩=>by rw [ak] at Z; simp [ptr] at Z; subst Z; exact k2)
 obtain ⟨b,c,d,a1,_,_,_⟩:=UD (I.ro (pre:=[_,_,_,_,_]) noB)
 have X : (O 1) = (vcV b c d i):=z4 a1 (hG 1 d1 _ R).2
 have I:=I.pl5
 have I:=Ja (I.recown (congrArg (λv=>(Value.cells v).toList) X))
 have H:=H.setq (t:=36) R X
 have H:=H.setq (t:=10) R ak
 have I:=I.pl3
 refine Zl (seg:=cV b c d i) (cs':=cV b c d i) H I Za R R R ZG cq (q_1 cq cq) (ZD (cc1 (t_2 (I.ro (pre:=[_]) noB)) (cc1 (s_1 (i.Next : Int)) (cc1 (t_2 (I.rn2)) (cc1 (t_2 (I.ro (pre:=[_,_,_]) noB)) (cc1 (s_1 _) cc0)))))) (q_2 cq cq) λw a I H=>Zc H R λa H=>Zj (ZA (s_2 ?_))
 have I:=I.pl2.toOsl0
 obtain ⟨G,al,J⟩:=bix J
 obtain ⟨be,I,_⟩:=I.open1 noB al.2
 obtain ⟨_,hx,_⟩:=I.head
 obtain ⟨o,am,_,_,rfl,_,_,_⟩:=Hk hx
 have I:=JY I
 obtain ⟨bm,an,J⟩:=bix J
 refine Ys (its:=[own NoB G.Label [o],own NoB G.Body [am],JK NoB (i.Records : List GRecord) (Y).toNat c (cR o am G),raw aj (cV b c d i),own NoB i.Keys [b],own NoB i.Events [d],osl NoB r7.1 u9,raw b5 xh,raw b3 (enc C),raw b1 (cV h j m n)]) (mk:=([mkO 13 (λv=>Wk v xg)] : Mk)) [40,41,42,43,44,45,46,47,48,49,50,51,52,12] Yx R R dd_ R H (λu=>M.qE (M.q0 I.drew u) emO) (q_m (λ_=>R) (qsP (λz=>Zi z.E Za ld R (Xw) (kr0 R)) (qsP (λz=>Zz (v:=h) z.E Za ld R TF R (at_0 (z.M.ra9)) (kr0 R)) (qsP (λz=>W2 z.E Za ld R s_3 (z.M.rd q) (kr0 R)) (qsP (v:=(vI (wr ((n.Keys.length : Int) - 1)))) (λz=>Yc z.E Za ld R R R (kr0 R)) (qsP (λz=>Zx z.E Za ld R ZL R (z.M.ra8) (u_1 _) (kr0 R)) (qsP (λz=>Zi z.E Za ld R (Ye) (kr0 R)) (qsP (λz=>Zz (v:=c) z.E Za ld R Xr R (at_2 (z.M.ra3)) (kr0 R)) (q_m (λ_=>R) (qsP (λz=>zY (pre:=[_,_]) z.E z.M Za ld R R o_3 Yk an.1 (kr0 R)) (qsP (λz=>Zi z.E Za ld R (Ka) (kr0 R)) (qsP (λz=>Zz (v:=o) z.E Za ld R Wo R (at_3 (z.M.holeAt (pre:=[_,_]))) (kr0 R)) (qsP (λz=>Yi (parts:=[(0,.tmp 40),(1,.tmp 44),(2,.tmp 45),(3,.tmp 51)]) (vs:=[(0,vI B),(1,vI (wr ((n.Keys.length : Int) - 1))),(2,Value.agg (enc C).toArray),(3,o)]) (cs:=cat [[vI B],[vI (wr ((n.Keys.length : Int) - 1))],enc C,[o],[xd],enc xb]) z.E Za ld R R Yk pl98 (Ya (pre:=[]) (seg:=[vI 0]) (seg':=[vI B]) (post:=[[vI 0],enc xc,[xd],[xd],enc xb]) R cl0 R R R (Ya (pre:=[[vI B]]) (seg:=[vI 0]) (seg':=[vI (wr ((n.Keys.length : Int) - 1))]) (post:=[enc xc,[xd],[xd],enc xb]) R ck R R R (Ya (pre:=[[vI B],[vI (wr ((n.Keys.length : Int) - 1))]]) (seg:=enc xc) (seg':=enc C) (post:=[[xd],[xd],enc xb]) R ck (u_1 _) (u_1 _) R (Ya (pre:=[[vI B],[vI (wr ((n.Keys.length : Int) - 1))],enc C]) (seg:=[xd]) (seg':=[o]) (post:=[[xd],enc xb]) R ck R R (Z5 (z.M.ro (pre:=[]) noB)) YF)))) (kr0 R)) (q_t ?_ qs0)))))))))))))) ?_
 ·intro a w ao D z
  have H:=z.E
  have hD : D 13 = false:=z.F
  have I:=z.M
  refine Zv H I Yk λbn w a I H=>?_
  have I:=I.pack1 (it:=Wk _ xg) (λw w' fp ⟨b',e,k⟩ hb=>⟨b',e,YN w w' fp k hb⟩) (λfp k=>⟨_,R,k⟩)
  exact ⟨_,_,R,H,M.qFill (mk1:=[]) (mk2:=[]) (f:=λv=>Wk v xg) I R hD,trivial⟩
 intro a w ao D H I hG N
 have a2:=N 13 dd_
 have I:=(I.sure (pre:=[_,_,_,_,_,_,_,_,_,_]) a2).pl
 obtain ⟨_,⟨a3,ap,_⟩,_⟩:=I.head
 have I:=I.pack1 YN (it:=raw a3 xg) (λfp ⟨b2,Z,k2⟩=>by rw [ap] at Z; simp [ptr] at Z; subst Z; exact k2)
 have H:=H.setq (t:=12) R ap
 refine Zl (seg:=cat [[vI B],[vI (wr ((n.Keys.length : Int) - 1))],enc C,[o],[xd],enc xb]) (cs':=cat [[vI B],[vI (wr ((n.Keys.length : Int) - 1))],enc C,[o],[xd],enc xb]) H I Za R R R Yk cq (q_1 cq cq) (ZD (cc1 (s_1 (B : Int)) (cc1 (s_1 (wr ((n.Keys.length : Int) - 1) : Int)) (cc1 (s_1 _) (cc1 (t_2 (I.ro (pre:=[_]) noB)) (cc1 ZZ (cc1 (s_1 _) cc0))))))) (q_2 cq cq) λw a I H=>Zj (ZA (Zb (Zq H R ZG R I.ra10 cq λa H=>Zq H R Yk R I.ra0 cq λa H=>Zd H R λa H=>?_)))
 obtain ⟨T,a4,J⟩:=p_1 J
 refine Zp H R Zik (K8 _ n h (I.rdo q) j (I.rdo A) m (I.rdo y) (⟨B,wr ((n.Keys.length : Int) - 1),C,G.Label,[],xb⟩ : GRecord) o (I.ro (pre:=[_]) noB) xd Zdr r7.1 u9 (I.sl7) T a4) ?_
 rintro K w a ⟨_,rfl,hFr,hK⟩ H
 have I:=I.add hK hFr
 refine Zm H R (Qh) λa H=>?_
 have I:=I.pl1
 refine Zl (seg:=[K]) H I Za R R (Z5 (I.sl1)) Wo R (ft_4 R) (t_2 (I.sl1)) (sp_4 R) λw a I H=>Ze (Zb (Zq H R ZG R I.ra11 cq λa H=>Zq H R Yk R I.ra0 cq λa H=>?_))
 obtain ⟨L,a5,J⟩:=p_1 J
 refine c_k H I R Zck (Ks _ n h (I.rdo q) j (I.rdo A) m (I.rdo y) (⟨B,wr ((n.Keys.length : Int) - 1),C,G.Label,T,xb⟩ : GRecord) o (I.rn2) K (I.sl1) L a5) λw a I H=>?_
 refine Zm H R (Qg) λa H=>Zl (seg:=enc L) H I Za R R R ZW (u_1 _) (Xf (pre:=[[vI B],[vI (wr ((n.Keys.length : Int) - 1))],enc C,[o],[K]]) ck flq) (s_1 _) (Ym (pre:=[[vI B],[vI (wr ((n.Keys.length : Int) - 1))],enc C,[o],[K]]) ck flq) λw a I H=>Ze (Zb (Zm H R (Ye) λa H=>ZB (v:=c) H R Xr R (at_2 I.ra5) λa H=>Zd H R λa H=>Zq H R Yk R I.ra0 cq λa H=>?_))
 obtain ⟨bo,aq,J⟩:=bix J
 refine zY (pre:=[_,_,_,_]) H I Za ld R R o_3 Yk aq.1 λa H=>?_
 have I:=I.pl4
 refine qa (k0:=0) (seg:=cat [[vI B],[vI (wr ((n.Keys.length : Int) - 1))],enc C,[o],[K],enc L]) (cs':=cat [[vI B],[vI (wr ((n.Keys.length : Int) - 1))],enc C,[o],[K],enc L]) H I noB Za R R R Yk cq (ZD (cc1 (s_1 (B : Int)) (cc1 (s_1 (wr ((n.Keys.length : Int) - 1) : Int)) (cc1 (s_1 _) (cc1 (t_2 (I.ro (pre:=[_,_,_]) noB)) (cc1 (t_2 (I.sl2)) (cc1 (s_1 _) cc0))))))) (q_1 cq cq) (q_2 cq cq) λw a I H=>?_
 have I:=(QK (x:=(⟨B,wr ((n.Keys.length : Int) - 1),C,G.Label,T,L⟩ : GRecord)) I.pl11.pl11.pl11.pl11.pl11.pl11.pl11.pl11.pl9.pl9.pl10.pl11 siw sio).close1 noB
 refine Ze (Zb (Zq H R ZG R I.ra3 cq λa H=>Zd H R λa H=>Zm H R (Qg) λa H=>Zq H R ZW R (at_5 I.ra1) (u_1 _) λa H=>?_))
 have I:=I.pl4.toOsl0.pl5.toOsl0.pl2.pl2
 have hM0:=I
 obtain ⟨U,a6,J⟩:=p_1 J
 refine Zp H R Zf1 (K0 _ _ _ _ (⟨i.Keys,i.Next,i.Records.set (Y).toNat (⟨B,wr ((n.Keys.length : Int) - 1),C,G.Label,T,L⟩ : GRecord),i.Events,i.Head⟩ : GVault) b c d 4 B L I U a6) ?_
 rintro v w a ⟨aa,ab,ac,rfl,I⟩ H
 have I:=I.pl7
 refine Zl (seg:=cV aa ab ac U) (cs':=cV aa ab ac U) H I Za R R R ZG cq (q_1 cq cq) (ZD (cc1 (t_2 (I.sl1)) (cc1 (s_1 (U.Next : Int)) (cc1 (t_2 (I.sl2)) (cc1 (t_2 (I.sl3)) (cc1 (s_1 _) cc0)))))) (q_2 cq cq) λw a I H=>Zc H R λa H=>Ze ?_
 obtain rfl:=o_1 J
 have ar : Z7 prog _ _ (.cell 6 79) _:=ZE H R ZG R I.ra0 cq R
 have I:=M.fst (l:=[_,_,_]) I.pl3.pl3.pl3
 exact p_3 (Yq H R ar (Zy H R) ⟨_,R,aa,ab,ac,R,I.outF (ZK (ZK (ZK Yd))),I.kept⟩)
def Uu (c : List UInt8) (d : (Int × Int)) : Option ((Int × Int) × List UInt8) :=
 (ZO c (d.1,d.2) 4).bind λb=>if b.2 == 0 then (some ((b.1.1,b.1.2),([] : List UInt8))) else (if b.2 == 1 then (some ((b.1.1,b.1.2),([97] : List UInt8))) else (if b.2 == 2 then (some ((b.1.1,b.1.2),([98,99] : List UInt8))) else (if b.2 == 3 then (some ((b.1.1,b.1.2),([1,2,3] : List UInt8))) else (none))))
theorem Bd (St : Nat → Prop) (W z : World) (A : Item) (n : Nat) (h : List UInt8) (b : Value) (t : Rep.sat St W h [b] []) (x : xw) (I : M St W z [raw n (cat [[b],[vI x.1],[Value.int .u64 x.2]]),A]) (r : xw × List UInt8) (J : Uu h x = some r) :
  Calls prog 147 [ptr n 0].toArray z (e_r λv w'=>(∃ B : Value,v = B ∧ M St W w' [raw n (cat [[b],[vI r.1.1],[Value.int .u64 r.1.2]]),osl NoB r.2 B,A])):=by
 refine ce func147 ?_
 intro a H
 unfold Uu at J
 refine Zb (Zc H R λa H=>Ze (Zb (ZM (xs:=[]) (l:=xv) (vs:=[]) H I Za ld R R o_2 ty5 R dd_ R λk w a I H=>ZM (xs:=[.const (vB 97)]) (l:=([97] : List UInt8)) (vs:=[vB 97]) H I Za ld R R o_2 ty5 R dd_ R λo w a I H=>ZM (xs:=[.const (vB 98),.const (vB 99)]) (l:=([98,99] : List UInt8)) (vs:=[vB 98,vB 99]) H I Za ld R R o_2 ty5 R dd_ R λq w a I H=>ZM (xs:=[.const (vB 1),.const (vB 2),.const (vB 3)]) (l:=([1,2,3] : List UInt8)) (vs:=[vB 1,vB 2,vB 3]) H I Za ld R R o_2 ty5 R dd_ R λu w a I H=>QE (xs:=[.tmp 3,.tmp 4,.tmp 5,.tmp 6]) (vs:=[k,o,q,u]) H I Za ld R R o_6 Wo dd_ (Ws (Z5 (I.sl3)) (Ws (Z5 (I.sl2)) (Ws (Z5 (I.sl1)) (Ws (Z5 (I.sl0)) BP)))) λC w a I H=>Zd H R λa H=>?_)))
 have I:=M.tailP (m:=[_]) I.pl5
 obtain ⟨j,y,J⟩:=p_1 J
 refine Zp H R Kc (ZT _ _ _ _ n h b t (x.1,x.2) 4 I j y) ?_
 rintro v w a ⟨rfl,I⟩ H
 have I:=M.tailU (m:=[_]) I
 simp only [List.cons_append,List.nil_append] at I
 refine Yj (j.2 == 0) (λc=>?_) (λc=>?_)
 ·have J:=Zt J c
  refine UJ (i:=((0 : Nat) : Int)) H Za ld R (lk R (congrArg vI (eq_of_beq c))) o_6 Wo dd_ λa H=>ZB (v:=k) H R Wo R (At.cat (pre:=[]) (show At _ _ _ (cat [[k],[o],[q],[u]]) from I.ra1) cl0) λa H=>Zc H R λa H=>Ze ?_
  obtain rfl:=o_1 J
  have I:=((((I.pl6.pl6.pl2.pl6).drop.pl5).drop.pl4).drop.pl3).drop
  exact p_3 (ZY H R (Zy H R) ⟨_,R,k,R,I⟩)
 have J:=Zs J c
 refine Yj (j.2 == 1) (λd=>?_) (λd=>?_)
 ·have J:=Zt J d
  refine UJ (i:=((1 : Nat) : Int)) H Za ld R (lk R (congrArg vI (eq_of_beq d))) o_6 Wo dd_ λa H=>ZB (v:=o) H R Wo R (At.cat (pre:=[[k]]) (show At _ _ _ (cat [[k],[o],[q],[u]]) from I.ra1) ck) λa H=>Zc H R λa H=>Ze ?_
  obtain rfl:=o_1 J
  have I:=((((I.pl6.pl5.pl2.pl6).drop.pl5).drop.pl4).drop.pl3).drop
  exact p_3 (ZY H R (Zy H R) ⟨_,R,o,R,I⟩)
 have J:=Zs J d
 refine Yj (j.2 == 2) (λe=>?_) (λe=>?_)
 ·have J:=Zt J e
  refine UJ (i:=((2 : Nat) : Int)) H Za ld R (lk R (congrArg vI (eq_of_beq e))) o_6 Wo dd_ λa H=>ZB (v:=q) H R Wo R (At.cat (pre:=[[k],[o]]) (show At _ _ _ (cat [[k],[o],[q],[u]]) from I.ra1) ck) λa H=>Zc H R λa H=>Ze ?_
  obtain rfl:=o_1 J
  have I:=((((I.pl6.pl4.pl2.pl6).drop.pl5).drop.pl4).drop.pl3).drop
  exact p_3 (ZY H R (Zy H R) ⟨_,R,q,R,I⟩)
 have J:=Zs J e
 refine Yj (j.2 == 3) (λf=>?_) (λf=>?_)
 ·have J:=Zt J f
  refine UJ (i:=((3 : Nat) : Int)) H Za ld R (lk R (congrArg vI (eq_of_beq f))) o_6 Wo dd_ λa H=>ZB (v:=u) H R Wo R (At.cat (pre:=[[k],[o],[q]]) (show At _ _ _ (cat [[k],[o],[q],[u]]) from I.ra1) ck) λa H=>Zc H R λa H=>Ze ?_
  obtain rfl:=o_1 J
  have I:=((((I.pl6.pl3.pl2.pl6).drop.pl5).drop.pl4).drop.pl3).drop
  exact p_3 (ZY H R (Zy H R) ⟨_,R,u,R,I⟩)
 have J:=Zs J f
 cases J
def UQ (d : List UInt8) (b : Int × Int × List UInt8 × Int) : Option (Fl (Int × Int × List UInt8 × Int) (Int × Int × List UInt8)) :=
 if decide (b.2.2.2 > 0) then ((WX d (b.1,b.2.1)).bind λc=>(app 1 b.2.2.1 ([c.2] : List UInt8)).bind λe=>some (Fl.nx (c.1.1,c.1.2,b.2.2.1 ++ ([c.2] : List UInt8),wr (b.2.2.2 - 1)))) else (some (Fl.ex (b.1,b.2.1,b.2.2.1)))
def VM (b : List UInt8) (j : (Int × Int)) (e : Int) : Option ((Int × Int) × List UInt8) :=
 (ZO b (j.1,j.2) (wr ((if 5 < e then 5 else e) + 1))).bind λf=>(ZO b (f.1.1,f.1.2) (wr ((if 40 < e then 40 else e) + 1))).bind λh=>(ZO b (h.1.1,h.1.2) (wr (e + 1))).bind λi=>(Xv b (i.1.1,i.1.2) ([f.2,h.2,i.2] : List Int)).bind λc=>(ZQ (UQ b) (c.1.1,c.1.2,([] : List UInt8),c.2)).bind λd=>some ((d.1,d.2.1),d.2.2)
theorem Av (St : Nat → Prop) (W O : World) (C : Item) (d : Nat) (e : List UInt8) (b : Value) (f : Rep.sat St W e [b] []) (x : xw) (k : Int) (I : M St W O [raw d (cat [[b],[vI x.1],[Value.int .u64 x.2]]),C]) (r : xw × List UInt8) (J : VM e x k = some r) :
  Calls prog 80 [ptr d 0,vI k].toArray O (e_r λv w'=>(∃ T : Value,v = T ∧ M St W w' [raw d (cat [[b],[vI r.1.1],[Value.int .u64 r.1.2]]),osl NoB r.2 T,C])):=by
 refine ce func80 ?_
 intro a H
 unfold VM at J
 refine Zb (Zc H R λa H=>Ze (Zb (ZM (xs:=[]) (l:=xv) (vs:=[]) H I Za ld R R o_2 ty5 R dd_ R λU w a I H=>Zc H R λa H=>Ze (s_2 (Zb (Zd H R λa H=>Zd H R λa H=>Zd H R λa H=>s_min H Za ld R R λa H=>Zn H R R R λa H=>?_))))))
 have I:=M.tailP (m:=[_]) I.pl1
 obtain ⟨q,X,J⟩:=p_1 J
 refine Zp H R Kc (ZT _ _ _ _ d e b f (x.1,x.2) (wr ((if 5 < k then 5 else k) + 1)) I q X) ?_
 rintro v w a ⟨rfl,I⟩ H
 have I:=M.tailU (m:=[_]) I
 simp only [List.cons_append,List.nil_append] at I
 refine Zd H R λa H=>Zd H R λa H=>s_min H Za ld R R λa H=>Zn H R R R λa H=>?_
 have I:=M.tailP (m:=[_]) I
 obtain ⟨t,Y,J⟩:=p_1 J
 refine Zp H R Kc (ZT _ _ _ _ d e b f (q.1.1,q.1.2) (wr ((if 40 < k then 40 else k) + 1)) I t Y) ?_
 rintro v w a ⟨rfl,I⟩ H
 have I:=M.tailU (m:=[_]) I
 simp only [List.cons_append,List.nil_append] at I
 refine Zd H R λa H=>Zd H R λa H=>Zn H R R R λa H=>?_
 have I:=M.tailP (m:=[_]) I
 obtain ⟨u,Z,J⟩:=p_1 J
 refine Zp H R Kc (ZT _ _ _ _ d e b f (t.1.1,t.1.2) (wr (k + 1)) I u Z) ?_
 rintro v w a ⟨rfl,I⟩ H
 have I:=M.tailU (m:=[_]) I
 simp only [List.cons_append,List.nil_append] at I
 refine ZM (xs:=[.tmp 13,.tmp 18,.tmp 22]) (l:=([q.2,t.2,u.2] : List Int)) (vs:=[vI q.2,vI t.2,vI u.2]) H I Za ld R R t_3 ty2 R dd_ R λu9 w a I H=>?_
 have I:=M.tailP (m:=[_,_]) I.pl1
 obtain ⟨E,F,J⟩:=p_1 J
 refine Zp H R yO (Vi _ _ _ _ d e b f (u.1.1,u.1.2) ([q.2,t.2,u.2] : List Int) u9 I E F) ?_
 rintro v w a ⟨rfl,I⟩ H
 have I:=M.tailU (m:=[_,_]) I
 simp only [List.cons_append,List.nil_append] at I
 refine Zc H R λa H=>Ze ?_
 obtain ⟨n,y,z⟩:=p_1 J
 refine ZV (λa w=>∃ i : Value,Env 35 a [(5,i)] ∧ M St W w [raw d (cat [[b],[vI n.1],[Value.int .u64 n.2.1]]),C,osl NoB n.2.2 i]) ?_ ?_
 ·refine p_2 ?_
  have I:=(I.pl2.pl3.pl2.pl3).drop
  refine ZP (λ(h : Int × Int × List UInt8 × Int) a w=>∃ j : Value,Env 35 a [(0,ptr d 0),(5,j),(6,vI h.2.2.2)] ∧ M St W w [raw d (cat [[b],[vI h.1],[Value.int .u64 h.2.1]]),C,osl NoB h.2.2.1 j]) y ⟨U,H.s,I⟩ ?_
  rintro h a w ⟨j,H,I⟩ ab c A
  unfold UQ at c
  refine s_2 (Zb (Zd H R λa H=>Zn H R R R λa H=>Ze ?_))
  refine c_if H R c ?_ ?_
  ·intro B c
   refine u_2 (ZA (s_2 (p_2 (t_1 (Zd H R λa H=>Zd H R λa H=>?_)))))
   have I:=M.tailP (m:=[_]) I
   obtain ⟨o,G,c⟩:=p_1 c
   refine Zp H R (cbm func174) (JX _ _ _ _ d e b f (h.1,h.2.1) I o G) ?_
   rintro v w a ⟨rfl,I⟩ H
   have I:=M.tailU (m:=[_]) I
   simp only [List.cons_append,List.nil_append] at I
   refine ZM (xs:=[.tmp 31]) (l:=([o.2] : List UInt8)) (vs:=[vB o.2]) H I Za ld R R o_2 ty5 R dd_ R λac w a I H=>?_
   obtain ⟨ad,K,c⟩:=p_1 c
   obtain ⟨L,rfl⟩:=ZU K
   have I:=I.pl3
   refine ZX H I Za ld R R (I.sl1) o_2 ty5 R dd_ L λN w a I H=>Zc H R λa H=>Zj (Yy (ZA (t_1 (Zd H R λa H=>Zn H R R R λa H=>Zc H R λa H=>Zj (Zk ?_)))))
   have I:=(I.pl3.pl3.pl3).drop
   exact ⟨_,ois c,N,H.s,I⟩
  intro B c
  refine s_4 (Zu (Zu (YE ?_)))
  obtain rfl:=A _ (ois c)
  refine Zk ?_
  exact ⟨j,H.s,I⟩
 rintro a w ⟨i,H,I⟩
 refine ZA (Zb (Zd H R λa H=>Zc H R λa H=>Ze ?_))
 obtain rfl:=o_1 z
 have I:=I.pl1.pl2.pl2
 exact p_3 (ZY H R (Zy H R) ⟨_,R,i,R,I⟩)
def TL (b : GVault) (n : List UInt8) (o : List UInt8) (j : V16) : Option (GVault × Int × Int) :=
 (X9 b).bind λq=>if !q then (some ((⟨[],0,[],[],Vector.replicate 32 (0 : UInt8)⟩ : GVault),0,1)) else ((if decide ((n.length : Int) > 32) then (some true) else (some (decide ((o.length : Int) > 200))) : Option (Bool)).bind λk=>if k then (some ((⟨[],0,[],[],Vector.replicate 32 (0 : UInt8)⟩ : GVault),0,2)) else ((Tc b j).bind λl=>if l then (some ((⟨[],0,[],[],Vector.replicate 32 (0 : UInt8)⟩ : GVault),0,5)) else ((if (b.Records.length : Int) == 12 then (some true) else (if (b.Events.length : Int) == 60 then (some true) else (some (b.Next == 1000000))) : Option (Bool)).bind λm=>if m then (some ((⟨[],0,[],[],Vector.replicate 32 (0 : UInt8)⟩ : GVault),0,3)) else ((VS b).bind λd=>(XI n).bind λf=>(XV b (⟨b.Next,wr ((b.Keys.length : Int) - 1),j,f,[],Vector.replicate 32 (0 : UInt8)⟩ : GRecord) o).bind λh=>(X2 b (⟨b.Next,wr ((b.Keys.length : Int) - 1),j,f,h,Vector.replicate 32 (0 : UInt8)⟩ : GRecord)).bind λi=>(app 112 d.Records ([(⟨b.Next,wr ((b.Keys.length : Int) - 1),j,f,h,i⟩ : GRecord)] : List GRecord)).bind λt=>((XP (⟨d.Keys,wr (d.Next + 1),d.Records ++ ([(⟨b.Next,wr ((b.Keys.length : Int) - 1),j,f,h,i⟩ : GRecord)] : List GRecord),d.Events,d.Head⟩ : GVault) 1 b.Next i).bind λe=>some (e.Keys,e.Next,e.Records,e.Events,e.Head,0,b.Next) : Option (List V16 × Int × List GRecord × List GEvent × V32 × Int × Int)).bind λc=>some ((⟨c.1,c.2.1,c.2.2.1,c.2.2.2.1,c.2.2.2.2.1⟩ : GVault),c.2.2.2.2.2.2,c.2.2.2.2.2.1)))))
end

end Go.Proofs.YtfhhlkkhcoaapaaGreat
