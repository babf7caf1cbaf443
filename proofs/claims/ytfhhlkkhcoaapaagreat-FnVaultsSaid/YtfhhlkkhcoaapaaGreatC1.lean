/- The walk of what the law reaches: contracts of functions. -/
import Derived.Test.YtfhhlkkhcoaapaaGreatK2
import Derived.Test.YtfhhlkkhcoaapaaGreatShelfS
import Derived.Test.YtfhhlkkhcoaapaaGreatProg
set_option linter.unusedVariables false
set_option linter.unusedSimpArgs false
set_option maxRecDepth 20000
set_option maxHeartbeats 400000
namespace Go.Proofs.YtfhhlkkhcoaapaaGreat
open Go Go.Proofs.Tryz
open Flat (enc)
noncomputable section
universe u
theorem R {α : Sort u} {a : α} : a = a:=rfl
abbrev V16:=Vector UInt8 16
abbrev V32:=Vector UInt8 32
abbrev V256:=Vector UInt8 256
theorem Env.s {n : Nat} {a : Act} {e e' : List (Nat × Value)} (h : Env n a e) (hs : Aq e e' := by repeat (first | exact trivial | refine ⟨rfl,?_⟩)) : Env n a e':=h.sub hs
theorem k_s {n : Nat} {a : Act} {e : List (Nat × Value)} {w : World} {P : Program} {ops : Array Oper} {rest : List Oper} {Q : Exit → Act → World → Prop} (h : Env n a e) {j t d : Nat} {q b b' : Bool} {x : Op} {ty : TypeId} {p : String} {af : Array Edge} (hk : q = b) (hj : (ops[j]?).bind (·.dst) = some t) (ht : e.lookup t = some (.bool q)) (hb : b = !b') (k : ∀ a, Env n a ((d, undef) :: e) → wpList P ops Q rest a w) (hd : d < n := by decide) : wpList P ops Q (⟨some d, x, ty, p, af, some (j, b')⟩ :: rest) a w:=Zf h hj (lkb ht hk) hb hd k
theorem q_1 {a b : List Value} {n : Nat} (h1 : a.length = n) (h2 : b.length = n) : 0 + a.length ≤ b.length:=Nat.le_of_eq ((Nat.zero_add _).trans (h1.trans h2.symm))
theorem q_2 {a b : List Value} {n : Nat} (h1 : a.length = n) (h2 : b.length = n) : YJ b 0 a = a:=Zh (h1.trans h2.symm)
theorem c_if {n : Nat} {a : Act} {e : List (Nat × Value)} {w : World} {P : Program} {Q : Exit → Act → World → Prop} {T : Type} {A B : Option T} {r : T} {X Y : Code} {x : Operand} {c : Bool} (h : Env n a e) (hx : opv e x = some (vT c)) (J : (if c = true then A else B) = some r) (h1 : c = true → A = some r → X.wp P Q a w) (h2 : c = false → B = some r → Y.wp P Q a w) : (Code.cond x X Y).wp P Q a w:=Zr h hx (fun k => h1 k (Zt J k)) (fun k => h2 k (Zs J k))
theorem c_k {n : Nat} {a : Act} {e : List (Nat × Value)} {w : World} {P : Program} {ops : Array Oper} {rest : List Oper} {Q : Exit → Act → World → Prop} {d : Nat} {ty : TypeId} {pos : String} {af : Array Edge} {f : Nat} {xs : List Operand} {ats : Array TypeId} {vs : List Value} {x : Value} {St : Nat → Prop} {w0 : World} {its : List Item} (h : Env n a e) (hM : M St w0 w its) (hxs : K5 e xs = some vs) (hf : Callable P f) (hc : Calls P f vs.toArray w fun en w' => ∃ v, en = .returned v ∧ (v = x ∧ Kept (Old w) w w')) (k : ∀ w' a, M St w0 w' its → Env n a ((d, x) :: e) → wpList P ops Q rest a w') (hd : d < n := by decide) : wpList P ops Q (⟨some d, .call ⟨.value (.func f), xs.toArray, ats⟩, ty, pos, af, none⟩ :: rest) a w:=Zp h hxs hf hc (fun _ w' a hv hE => k w' a (hM.keep hv.2) (hv.1 ▸ hE)) hd
theorem q_m {P : Program} {ops : Array Oper} {n : Nat} {ts : List Nat} {e0 : List (Nat × Value)} {St : Nat → Prop} {w0 : World} {its : List Item} {mk : Mk} {hd : List Oper} {i : Nat} {acc F : List Ent} {r : List Oper} {d : Nat} {ty : TypeId} {pos : String} {af : Array Edge} {x : Operand} {v : Value} (hx : ∀ u, opv (zC ts i acc u af.toList ++ QD ts 0 u e0) x = some v) (k : QS P ops n ts e0 St w0 its mk hd (i + 1) r (.p0 v :: acc) F) (ht : ts[i]? = some d := by rfl) (hn : d < n := by decide) (hi : (mk.all fun p => p.1.all fun k => k != i) = true := by rfl) : QS P ops n ts e0 St w0 its mk hd i (⟨some d, .move x, ty, pos, af, none⟩ :: r) acc F:=qsP (fun z => Zo z.E Za hn (hx _) (kr0 ht)) k hi
abbrev e_r (q : Value → World → Prop):=fun (en : Ending) w' => ∃ v, en = .returned v ∧ q v w'
theorem at_0 {w : World} {b o n : Nat} {s : List Value} {r : List (List Value)} [CL [] n] (h : At w b o (cat (s :: r))) : At w b (o + n) s:=At.cat (pre:=[]) h ck
theorem at_1 {w : World} {b o n : Nat} {p0 : List Value} {s : List Value} {r : List (List Value)} [CL [p0] n] (h : At w b o (cat (p0 :: s :: r))) : At w b (o + n) s:=At.cat (pre:=[p0]) h ck
theorem at_2 {w : World} {b o n : Nat} {p0 p1 : List Value} {s : List Value} {r : List (List Value)} [CL [p0,p1] n] (h : At w b o (cat (p0 :: p1 :: s :: r))) : At w b (o + n) s:=At.cat (pre:=[p0,p1]) h ck
theorem at_3 {w : World} {b o n : Nat} {p0 p1 p2 : List Value} {s : List Value} {r : List (List Value)} [CL [p0,p1,p2] n] (h : At w b o (cat (p0 :: p1 :: p2 :: s :: r))) : At w b (o + n) s:=At.cat (pre:=[p0,p1,p2]) h ck
theorem at_4 {w : World} {b o n : Nat} {p0 p1 p2 p3 : List Value} {s : List Value} {r : List (List Value)} [CL [p0,p1,p2,p3] n] (h : At w b o (cat (p0 :: p1 :: p2 :: p3 :: s :: r))) : At w b (o + n) s:=At.cat (pre:=[p0,p1,p2,p3]) h ck
theorem at_5 {w : World} {b o n : Nat} {p0 p1 p2 p3 p4 : List Value} {s : List Value} {r : List (List Value)} [CL [p0,p1,p2,p3,p4] n] (h : At w b o (cat (p0 :: p1 :: p2 :: p3 :: p4 :: s :: r))) : At w b (o + n) s:=At.cat (pre:=[p0,p1,p2,p3,p4]) h ck
theorem at_6 {w : World} {b o n : Nat} {p0 p1 p2 p3 p4 p5 : List Value} {s : List Value} {r : List (List Value)} [CL [p0,p1,p2,p3,p4,p5] n] (h : At w b o (cat (p0 :: p1 :: p2 :: p3 :: p4 :: p5 :: s :: r))) : At w b (o + n) s:=At.cat (pre:=[p0,p1,p2,p3,p4,p5]) h ck
theorem M.rn0 {α : Type} [Rep α] {St : Nat → Prop} {w w0 : World} {x : α} {c : List Value} {q : List Item} (h : M St w0 w (own NoB x c :: q)) : Ro w x c:=M.ro (pre:=[]) h noB
theorem M.rn1 {α : Type} [Rep α] {St : Nat → Prop} {w w0 : World} {x : α} {c : List Value} {i0 : Item} {q : List Item} (h : M St w0 w (i0 :: own NoB x c :: q)) : Ro w x c:=M.ro (pre:=[_]) h noB
theorem M.rn2 {α : Type} [Rep α] {St : Nat → Prop} {w w0 : World} {x : α} {c : List Value} {i0 i1 : Item} {q : List Item} (h : M St w0 w (i0 :: i1 :: own NoB x c :: q)) : Ro w x c:=M.ro (pre:=[_,_]) h noB
theorem M.rn3 {α : Type} [Rep α] {St : Nat → Prop} {w w0 : World} {x : α} {c : List Value} {i0 i1 i2 : Item} {q : List Item} (h : M St w0 w (i0 :: i1 :: i2 :: own NoB x c :: q)) : Ro w x c:=M.ro (pre:=[_,_,_]) h noB
theorem M.rn4 {α : Type} [Rep α] {St : Nat → Prop} {w w0 : World} {x : α} {c : List Value} {i0 i1 i2 i3 : Item} {q : List Item} (h : M St w0 w (i0 :: i1 :: i2 :: i3 :: own NoB x c :: q)) : Ro w x c:=M.ro (pre:=[_,_,_,_]) h noB
theorem M.rn5 {α : Type} [Rep α] {St : Nat → Prop} {w w0 : World} {x : α} {c : List Value} {i0 i1 i2 i3 i4 : Item} {q : List Item} (h : M St w0 w (i0 :: i1 :: i2 :: i3 :: i4 :: own NoB x c :: q)) : Ro w x c:=M.ro (pre:=[_,_,_,_,_]) h noB
theorem M.rn6 {α : Type} [Rep α] {St : Nat → Prop} {w w0 : World} {x : α} {c : List Value} {i0 i1 i2 i3 i4 i5 : Item} {q : List Item} (h : M St w0 w (i0 :: i1 :: i2 :: i3 :: i4 :: i5 :: own NoB x c :: q)) : Ro w x c:=M.ro (pre:=[_,_,_,_,_,_]) h noB
theorem M.rn7 {α : Type} [Rep α] {St : Nat → Prop} {w w0 : World} {x : α} {c : List Value} {i0 i1 i2 i3 i4 i5 i6 : Item} {q : List Item} (h : M St w0 w (i0 :: i1 :: i2 :: i3 :: i4 :: i5 :: i6 :: own NoB x c :: q)) : Ro w x c:=M.ro (pre:=[_,_,_,_,_,_,_]) h noB
theorem M.rn8 {α : Type} [Rep α] {St : Nat → Prop} {w w0 : World} {x : α} {c : List Value} {i0 i1 i2 i3 i4 i5 i6 i7 : Item} {q : List Item} (h : M St w0 w (i0 :: i1 :: i2 :: i3 :: i4 :: i5 :: i6 :: i7 :: own NoB x c :: q)) : Ro w x c:=M.ro (pre:=[_,_,_,_,_,_,_,_]) h noB
theorem M.rn9 {α : Type} [Rep α] {St : Nat → Prop} {w w0 : World} {x : α} {c : List Value} {i0 i1 i2 i3 i4 i5 i6 i7 i8 : Item} {q : List Item} (h : M St w0 w (i0 :: i1 :: i2 :: i3 :: i4 :: i5 :: i6 :: i7 :: i8 :: own NoB x c :: q)) : Ro w x c:=M.ro (pre:=[_,_,_,_,_,_,_,_,_]) h noB
theorem M.rn10 {α : Type} [Rep α] {St : Nat → Prop} {w w0 : World} {x : α} {c : List Value} {i0 i1 i2 i3 i4 i5 i6 i7 i8 i9 : Item} {q : List Item} (h : M St w0 w (i0 :: i1 :: i2 :: i3 :: i4 :: i5 :: i6 :: i7 :: i8 :: i9 :: own NoB x c :: q)) : Ro w x c:=M.ro (pre:=[_,_,_,_,_,_,_,_,_,_]) h noB
theorem M.sl0 {α : Type} [Rep α] {St : Nat → Prop} {w w0 : World} {l : List α} {v : Value} {q : List Item} (h : M St w0 w (osl NoB l v :: q)) : Ro w l [v]:=M.sl (pre:=[]) h noB
theorem M.sl1 {α : Type} [Rep α] {St : Nat → Prop} {w w0 : World} {l : List α} {v : Value} {i0 : Item} {q : List Item} (h : M St w0 w (i0 :: osl NoB l v :: q)) : Ro w l [v]:=M.sl (pre:=[_]) h noB
theorem M.sl2 {α : Type} [Rep α] {St : Nat → Prop} {w w0 : World} {l : List α} {v : Value} {i0 i1 : Item} {q : List Item} (h : M St w0 w (i0 :: i1 :: osl NoB l v :: q)) : Ro w l [v]:=M.sl (pre:=[_,_]) h noB
theorem M.sl3 {α : Type} [Rep α] {St : Nat → Prop} {w w0 : World} {l : List α} {v : Value} {i0 i1 i2 : Item} {q : List Item} (h : M St w0 w (i0 :: i1 :: i2 :: osl NoB l v :: q)) : Ro w l [v]:=M.sl (pre:=[_,_,_]) h noB
theorem M.sl4 {α : Type} [Rep α] {St : Nat → Prop} {w w0 : World} {l : List α} {v : Value} {i0 i1 i2 i3 : Item} {q : List Item} (h : M St w0 w (i0 :: i1 :: i2 :: i3 :: osl NoB l v :: q)) : Ro w l [v]:=M.sl (pre:=[_,_,_,_]) h noB
theorem M.sl5 {α : Type} [Rep α] {St : Nat → Prop} {w w0 : World} {l : List α} {v : Value} {i0 i1 i2 i3 i4 : Item} {q : List Item} (h : M St w0 w (i0 :: i1 :: i2 :: i3 :: i4 :: osl NoB l v :: q)) : Ro w l [v]:=M.sl (pre:=[_,_,_,_,_]) h noB
theorem M.sl6 {α : Type} [Rep α] {St : Nat → Prop} {w w0 : World} {l : List α} {v : Value} {i0 i1 i2 i3 i4 i5 : Item} {q : List Item} (h : M St w0 w (i0 :: i1 :: i2 :: i3 :: i4 :: i5 :: osl NoB l v :: q)) : Ro w l [v]:=M.sl (pre:=[_,_,_,_,_,_]) h noB
theorem M.sl7 {α : Type} [Rep α] {St : Nat → Prop} {w w0 : World} {l : List α} {v : Value} {i0 i1 i2 i3 i4 i5 i6 : Item} {q : List Item} (h : M St w0 w (i0 :: i1 :: i2 :: i3 :: i4 :: i5 :: i6 :: osl NoB l v :: q)) : Ro w l [v]:=M.sl (pre:=[_,_,_,_,_,_,_]) h noB
theorem M.sl8 {α : Type} [Rep α] {St : Nat → Prop} {w w0 : World} {l : List α} {v : Value} {i0 i1 i2 i3 i4 i5 i6 i7 : Item} {q : List Item} (h : M St w0 w (i0 :: i1 :: i2 :: i3 :: i4 :: i5 :: i6 :: i7 :: osl NoB l v :: q)) : Ro w l [v]:=M.sl (pre:=[_,_,_,_,_,_,_,_]) h noB
theorem M.sl9 {α : Type} [Rep α] {St : Nat → Prop} {w w0 : World} {l : List α} {v : Value} {i0 i1 i2 i3 i4 i5 i6 i7 i8 : Item} {q : List Item} (h : M St w0 w (i0 :: i1 :: i2 :: i3 :: i4 :: i5 :: i6 :: i7 :: i8 :: osl NoB l v :: q)) : Ro w l [v]:=M.sl (pre:=[_,_,_,_,_,_,_,_,_]) h noB
theorem M.sl10 {α : Type} [Rep α] {St : Nat → Prop} {w w0 : World} {l : List α} {v : Value} {i0 i1 i2 i3 i4 i5 i6 i7 i8 i9 : Item} {q : List Item} (h : M St w0 w (i0 :: i1 :: i2 :: i3 :: i4 :: i5 :: i6 :: i7 :: i8 :: i9 :: osl NoB l v :: q)) : Ro w l [v]:=M.sl (pre:=[_,_,_,_,_,_,_,_,_,_]) h noB
theorem M.sl11 {α : Type} [Rep α] {St : Nat → Prop} {w w0 : World} {l : List α} {v : Value} {i0 i1 i2 i3 i4 i5 i6 i7 i8 i9 i10 : Item} {q : List Item} (h : M St w0 w (i0 :: i1 :: i2 :: i3 :: i4 :: i5 :: i6 :: i7 :: i8 :: i9 :: i10 :: osl NoB l v :: q)) : Ro w l [v]:=M.sl (pre:=[_,_,_,_,_,_,_,_,_,_,_]) h noB
theorem M.sl12 {α : Type} [Rep α] {St : Nat → Prop} {w w0 : World} {l : List α} {v : Value} {i0 i1 i2 i3 i4 i5 i6 i7 i8 i9 i10 i11 : Item} {q : List Item} (h : M St w0 w (i0 :: i1 :: i2 :: i3 :: i4 :: i5 :: i6 :: i7 :: i8 :: i9 :: i10 :: i11 :: osl NoB l v :: q)) : Ro w l [v]:=M.sl (pre:=[_,_,_,_,_,_,_,_,_,_,_,_]) h noB
theorem M.sl14 {α : Type} [Rep α] {St : Nat → Prop} {w w0 : World} {l : List α} {v : Value} {i0 i1 i2 i3 i4 i5 i6 i7 i8 i9 i10 i11 i12 i13 : Item} {q : List Item} (h : M St w0 w (i0 :: i1 :: i2 :: i3 :: i4 :: i5 :: i6 :: i7 :: i8 :: i9 :: i10 :: i11 :: i12 :: i13 :: osl NoB l v :: q)) : Ro w l [v]:=M.sl (pre:=[_,_,_,_,_,_,_,_,_,_,_,_,_,_]) h noB
structure GRecord where
 Number : Int
 Version : Int
 Nonce : V16
 Label : (List UInt8)
 Body : (List UInt8)
 Tag : V32
 deriving DecidableEq,Inhabited
instance : Dat GRecord:=⟨λx=>Dat.bd (α:=Int × Int × V16 × (List UInt8) × (List UInt8) × V32) (x.Number,x.Version,x.Nonce,x.Label,x.Body,x.Tag),λx=>Dat.sz (α:=Int × Int × V16 × (List UInt8) × (List UInt8) × V32) (x.Number,x.Version,x.Nonce,x.Label,x.Body,x.Tag) + 1⟩
instance : Rep GRecord:=repIso (α:=Int × Int × V16 × (List UInt8) × (List UInt8) × V32) (λx=>(x.Number,x.Version,x.Nonce,x.Label,x.Body,x.Tag))
theorem Q8 {S : Nat → Prop} {w : World} {x : GRecord} {cs : List Value} {fp : List Nat} (h : Rep.sat S w x cs fp) : ∃ (b : Value) (c : Value),∃ (k : List Nat) (l : List Nat),cs = cat [enc x.Number,enc x.Version,enc x.Nonce,[b],[c],enc x.Tag] ∧ fp = (k ++ l) ∧ Rep.sat S w x.Label [b] k ∧ Rep.sat S w x.Body [c] l:=by
 obtain ⟨u,y,z,q0,rfl,rfl,o,d⟩:=h
 obtain ⟨rfl,rfl⟩:=o
 obtain ⟨A,B,C,q1,rfl,rfl,q,e⟩:=d
 obtain ⟨rfl,rfl⟩:=q
 obtain ⟨E,F,G,q2,rfl,rfl,t,f⟩:=e
 obtain ⟨rfl,rfl⟩:=t
 obtain ⟨K,L,N,q3,rfl,rfl,m,i⟩:=f
 obtain ⟨b,rfl⟩:=QH m
 obtain ⟨O,T,U,q4,rfl,rfl,n,j⟩:=i
 obtain ⟨c,rfl⟩:=QH n
 obtain ⟨rfl,rfl⟩:=j
 exact ⟨b,c,_,_,R,by simp,m,n⟩
theorem Za9 {S : Nat → Prop} {w : World} {x : GRecord} {d e : Value} {fp : List Nat} (h : Rep.sat S w x (cat [enc x.Number,enc x.Version,enc x.Nonce,[d],[e],enc x.Tag]) fp) : ∃ (b : List Nat) (c : List Nat),fp = (b ++ c) ∧ Rep.sat S w x.Label [d] b ∧ Rep.sat S w x.Body [e] c:=by
 obtain ⟨q,t,b,c,hc,hf,f,i⟩:=Q8 h
 obtain ⟨u,j⟩:=Vo hc R
 obtain ⟨y,k⟩:=Vo j R
 obtain ⟨z,l⟩:=Vo k R
 obtain ⟨m,n⟩:=Vo l R
 obtain ⟨o,A⟩:=Vo n R
 obtain rfl:=(List.cons.inj m).1
 obtain rfl:=(List.cons.inj o).1
 exact ⟨b,c,hf,f,i⟩
theorem YV {S : Nat → Prop} {w : World} {x : GRecord} {cs : List Value} (h : Rep.sat S w x cs []) : ∃ b c,cs = cat [enc x.Number,enc x.Version,enc x.Nonce,[b],[c],enc x.Tag] ∧ Rep.sat S w x.Label [b] [] ∧ Rep.sat S w x.Body [c] []:=by
 obtain ⟨A,B,C,E,rfl,d,u,e⟩:=h
 obtain ⟨rfl,rfl⟩:=List.append_eq_nil_iff.1 d.symm
 obtain ⟨rfl,_⟩:=u
 obtain ⟨F,G,K,L,rfl,f,y,i⟩:=e
 obtain ⟨rfl,rfl⟩:=List.append_eq_nil_iff.1 f.symm
 obtain ⟨rfl,_⟩:=y
 obtain ⟨N,O,T,U,rfl,j,z,k⟩:=i
 obtain ⟨rfl,rfl⟩:=List.append_eq_nil_iff.1 j.symm
 obtain ⟨rfl,_⟩:=z
 obtain ⟨W,X,Y,Z,rfl,l,q,m⟩:=k
 obtain ⟨rfl,rfl⟩:=List.append_eq_nil_iff.1 l.symm
 obtain ⟨b,rfl⟩:=QH q
 obtain ⟨c4,d4,f4,g4,rfl,n,t,o⟩:=m
 obtain ⟨rfl,rfl⟩:=List.append_eq_nil_iff.1 n.symm
 obtain ⟨c,rfl⟩:=QH t
 obtain ⟨rfl,_⟩:=o
 exact ⟨b,c,R,q,t⟩
theorem KD {S : Nat → Prop} {w : World} {x : GRecord} {d e : Value} {c b fp : List Nat} (f : Rep.sat S w x.Label [d] c) (h : Rep.sat S w x.Body [e] b) (hfp : fp = (c ++ b)) : Rep.sat S w x (cat [enc x.Number,enc x.Version,enc x.Nonce,[d],[e],enc x.Tag]) fp:=by
 rw [hfp]
 refine ⟨_,_,[],(c ++ b),R,(by simp),⟨R,R⟩,?_⟩
 refine ⟨_,_,[],(c ++ b),R,(by simp),⟨R,R⟩,?_⟩
 refine ⟨_,_,[],(c ++ b),R,(by simp),⟨R,R⟩,?_⟩
 refine ⟨_,_,c,b,R,(by simp),f,?_⟩
 refine ⟨_,_,b,[],R,(by simp),h,?_⟩
 exact ⟨R,R⟩
theorem VP {St : Nat → Prop} {b w : World} {its : List Item} {c d : Item} {x : GRecord} {e f : Value} (h : M St b w (c :: d :: its)) (i : qk c x.Label e) (j : qk d x.Body f) : M St b w (own NoB x (cat [enc x.Number,enc x.Version,enc x.Nonce,[e],[f],enc x.Tag]) :: its):=h.packL (m:=[_,_]) (X4 noB) λfp h=>by obtain ⟨_,_,rfl,_,k,_,_,rfl,_,l,rfl⟩:=h; exact KD (i _ _ k) (j _ _ l) (by simp)
theorem T3 {St : Nat → Prop} {d w : World} {its : List Item} {x : GRecord} {b c : Value} (h : M St d w (own NoB x (cat [enc x.Number,enc x.Version,enc x.Nonce,[b],[c],enc x.Tag]) :: its)) : M St d w (own NoB x.Label [b] :: own NoB x.Body [c] :: its):=h.unpackL (m:=[own NoB x.Label [b],own NoB x.Body [c]]) λfp h=>by obtain ⟨_,_,rfl,e,f⟩:=Za9 h; exact (Xm.cons (X4 noB) e (Xm.one (X4 noB) f))
theorem Zih (w : World) : Rep.sat NoB w (⟨(0 : Int),(0 : Int),(Vector.replicate 16 (0 : UInt8)),([] : (List UInt8)),([] : (List UInt8)),(Vector.replicate 32 (0 : UInt8))⟩ : GRecord) (cat [(enc (0 : Int)),(enc (0 : Int)),(enc (Vector.replicate 16 (0 : UInt8))),[.slice none 0 0],[.slice none 0 0],(enc (Vector.replicate 32 (0 : UInt8)))]) []:=KD JE JE rfl
structure GEvent where
 Kind : Int
 Number : Int
 Tag : V32
 deriving DecidableEq,Inhabited
instance : Dat GEvent:=⟨λx=>Dat.bd (α:=Int × Int × V32) (x.Kind,x.Number,x.Tag),λx=>Dat.sz (α:=Int × Int × V32) (x.Kind,x.Number,x.Tag) + 1⟩
instance : Flat GEvent where
 n:=34
 enc x:=cat [enc x.Kind,enc x.Number,enc x.Tag]
 len x:=yN (cl1 (Flat.len _) (cl1 (Flat.len _) (cl1 (Flat.len _) cl0)))
 cell x:=ZC (cc1 (Flat.cell _) (cc1 (Flat.cell _) (cc1 (Flat.cell _) cc0)))
structure GVault where
 Keys : (List V16)
 Next : Int
 Records : (List GRecord)
 Events : (List GEvent)
 Head : V32
 deriving DecidableEq,Inhabited
instance : Dat GVault:=⟨λx=>Dat.bd (α:=(List V16) × Int × (List GRecord) × (List GEvent) × V32) (x.Keys,x.Next,x.Records,x.Events,x.Head),λx=>Dat.sz (α:=(List V16) × Int × (List GRecord) × (List GEvent) × V32) (x.Keys,x.Next,x.Records,x.Events,x.Head) + 1⟩
instance : Rep GVault:=repIso (α:=(List V16) × Int × (List GRecord) × (List GEvent) × V32) (λx=>(x.Keys,x.Next,x.Records,x.Events,x.Head))
theorem Zde {S : Nat → Prop} {w : World} {x : GVault} {cs : List Value} {fp : List Nat} (h : Rep.sat S w x cs fp) : ∃ (b : Value) (c : Value) (d : Value),∃ (k : List Nat) (l : List Nat) (m : List Nat),cs = cat [[b],enc x.Next,[c],[d],enc x.Head] ∧ fp = (k ++ (l ++ m)) ∧ Rep.sat S w x.Keys [b] k ∧ Rep.sat S w x.Records [c] l ∧ Rep.sat S w x.Events [d] m:=by
 obtain ⟨u,y,z,q0,rfl,rfl,n,e⟩:=h
 obtain ⟨b,rfl⟩:=QH n
 obtain ⟨A,B,C,q1,rfl,rfl,t,f⟩:=e
 obtain ⟨rfl,rfl⟩:=t
 obtain ⟨E,F,G,q2,rfl,rfl,o,i⟩:=f
 obtain ⟨c,rfl⟩:=QH o
 obtain ⟨K,L,N,q3,rfl,rfl,q,j⟩:=i
 obtain ⟨d,rfl⟩:=QH q
 obtain ⟨rfl,rfl⟩:=j
 exact ⟨b,c,d,_,_,_,R,by simp,n,o,q⟩
theorem Zb8 {S : Nat → Prop} {w : World} {x : GVault} {e f i : Value} {fp : List Nat} (h : Rep.sat S w x (cat [[e],enc x.Next,[f],[i],enc x.Head]) fp) : ∃ (b : List Nat) (c : List Nat) (d : List Nat),fp = (b ++ (c ++ d)) ∧ Rep.sat S w x.Keys [e] b ∧ Rep.sat S w x.Records [f] c ∧ Rep.sat S w x.Events [i] d:=by
 obtain ⟨y,z,A,b,c,d,hc,hf,j,k,l⟩:=Zde h
 obtain ⟨m,n⟩:=Vo hc R
 obtain ⟨B,o⟩:=Vo n R
 obtain ⟨q,t⟩:=Vo o R
 obtain ⟨u,C⟩:=Vo t R
 obtain rfl:=(List.cons.inj m).1
 obtain rfl:=(List.cons.inj q).1
 obtain rfl:=(List.cons.inj u).1
 exact ⟨b,c,d,hf,j,k,l⟩
theorem Xx {S : Nat → Prop} {w : World} {x : GVault} {cs : List Value} (h : Rep.sat S w x cs []) : ∃ b c d,cs = cat [[b],enc x.Next,[c],[d],enc x.Head] ∧ Rep.sat S w x.Keys [b] [] ∧ Rep.sat S w x.Records [c] [] ∧ Rep.sat S w x.Events [d] []:=by
 obtain ⟨y,z,A,B,rfl,e,o,f⟩:=h
 obtain ⟨rfl,rfl⟩:=List.append_eq_nil_iff.1 e.symm
 obtain ⟨b,rfl⟩:=QH o
 obtain ⟨C,E,F,G,rfl,i,u,j⟩:=f
 obtain ⟨rfl,rfl⟩:=List.append_eq_nil_iff.1 i.symm
 obtain ⟨rfl,_⟩:=u
 obtain ⟨K,L,N,O,rfl,k,q,l⟩:=j
 obtain ⟨rfl,rfl⟩:=List.append_eq_nil_iff.1 k.symm
 obtain ⟨c,rfl⟩:=QH q
 obtain ⟨T,U,W,X,rfl,m,t,n⟩:=l
 obtain ⟨rfl,rfl⟩:=List.append_eq_nil_iff.1 m.symm
 obtain ⟨d,rfl⟩:=QH t
 obtain ⟨rfl,_⟩:=n
 exact ⟨b,c,d,R,o,q,t⟩
theorem kY {S : Nat → Prop} {w : World} {x : GVault} {e f h : Value} {d c b fp : List Nat} (i : Rep.sat S w x.Keys [e] d) (j : Rep.sat S w x.Records [f] c) (k : Rep.sat S w x.Events [h] b) (hfp : fp = (d ++ (c ++ b))) : Rep.sat S w x (cat [[e],enc x.Next,[f],[h],enc x.Head]) fp:=by
 rw [hfp]
 refine ⟨_,_,d,(c ++ b),R,(by simp),i,?_⟩
 refine ⟨_,_,[],(c ++ b),R,(by simp),⟨R,R⟩,?_⟩
 refine ⟨_,_,c,b,R,(by simp),j,?_⟩
 refine ⟨_,_,b,[],R,(by simp),k,?_⟩
 exact ⟨R,R⟩
theorem V4 {St : Nat → Prop} {b w : World} {its : List Item} {c d e : Item} {x : GVault} {f i j : Value} (h : M St b w (c :: d :: e :: its)) (k : qk c x.Keys f) (l : qk d x.Records i) (n : qk e x.Events j) : M St b w (own NoB x (cat [[f],enc x.Next,[i],[j],enc x.Head]) :: its):=h.packL (m:=[_,_,_]) (X4 noB) λfp h=>by obtain ⟨_,_,rfl,_,o,_,_,rfl,_,q,_,_,rfl,_,t,rfl⟩:=h; exact kY (k _ _ o) (l _ _ q) (n _ _ t) (by simp)
theorem V9 {St : Nat → Prop} {e w : World} {its : List Item} {x : GVault} {b c d : Value} (h : M St e w (own NoB x (cat [[b],enc x.Next,[c],[d],enc x.Head]) :: its)) : M St e w (own NoB x.Keys [b] :: own NoB x.Records [c] :: own NoB x.Events [d] :: its):=h.unpackL (m:=[own NoB x.Keys [b],own NoB x.Records [c],own NoB x.Events [d]]) λfp h=>by obtain ⟨_,_,_,rfl,f,i,j⟩:=Zb8 h; exact (Xm.cons (X4 noB) f (Xm.cons (X4 noB) i (Xm.one (X4 noB) j)))
theorem Zi9 (w : World) : Rep.sat NoB w (⟨([] : (List V16)),(0 : Int),([] : (List GRecord)),([] : (List GEvent)),(Vector.replicate 32 (0 : UInt8))⟩ : GVault) (cat [[.slice none 0 0],(enc (0 : Int)),[.slice none 0 0],[.slice none 0 0],(enc (Vector.replicate 32 (0 : UInt8)))]) []:=kY JE JE JE rfl
structure Gl01Source where
 code : (List UInt8)
 at0 : Int
 hash : Int
 deriving DecidableEq,Inhabited
instance : Dat Gl01Source:=⟨λx=>Dat.bd (α:=(List UInt8) × Int × Int) (x.code,x.at0,x.hash),λx=>Dat.sz (α:=(List UInt8) × Int × Int) (x.code,x.at0,x.hash) + 1⟩
instance : Rep Gl01Source:=repIso (α:=(List UInt8) × Int × Int) (λx=>(x.code,x.at0,x.hash))
theorem jO {S : Nat → Prop} {w : World} {x : Gl01Source} {cs : List Value} {fp : List Nat} (h : Rep.sat S w x cs fp) : ∃ (b : Value),∃ (e : List Nat),cs = cat [[b],enc x.at0,enc x.hash] ∧ fp = e ∧ Rep.sat S w x.code [b] e:=by
 obtain ⟨j,k,l,q0,rfl,rfl,f,c⟩:=h
 obtain ⟨b,rfl⟩:=QH f
 obtain ⟨m,n,o,q1,rfl,rfl,i,d⟩:=c
 obtain ⟨rfl,rfl⟩:=i
 obtain ⟨rfl,rfl⟩:=d
 exact ⟨b,_,R,by simp,f⟩
theorem jg {S : Nat → Prop} {w : World} {x : Gl01Source} {c : Value} {fp : List Nat} (h : Rep.sat S w x (cat [[c],enc x.at0,enc x.hash]) fp) : ∃ (b : List Nat),fp = b ∧ Rep.sat S w x.code [c] b:=by
 obtain ⟨i,b,hc,hf,d⟩:=jO h
 obtain ⟨e,f⟩:=Vo hc R
 obtain ⟨j,k⟩:=Vo f R
 obtain rfl:=(List.cons.inj e).1
 exact ⟨b,hf,d⟩
theorem Zhy {S : Nat → Prop} {w : World} {x : Gl01Source} {cs : List Value} (h : Rep.sat S w x cs []) : ∃ b,cs = cat [[b],enc x.at0,enc x.hash] ∧ Rep.sat S w x.code [b] []:=by
 obtain ⟨k,l,m,n,rfl,c,i,d⟩:=h
 obtain ⟨rfl,rfl⟩:=List.append_eq_nil_iff.1 c.symm
 obtain ⟨b,rfl⟩:=QH i
 obtain ⟨o,q,t,u,rfl,e,j,f⟩:=d
 obtain ⟨rfl,rfl⟩:=List.append_eq_nil_iff.1 e.symm
 obtain ⟨rfl,_⟩:=j
 obtain ⟨rfl,_⟩:=f
 exact ⟨b,R,i⟩
theorem ka {S : Nat → Prop} {w : World} {x : Gl01Source} {c : Value} {b fp : List Nat} (d : Rep.sat S w x.code [c] b) (hfp : fp = b) : Rep.sat S w x (cat [[c],enc x.at0,enc x.hash]) fp:=by
 rw [hfp]
 refine ⟨_,_,b,[],R,(by simp),d,?_⟩
 refine ⟨_,_,[],[],R,(by simp),⟨R,R⟩,?_⟩
 exact ⟨R,R⟩
theorem Zhz {St : Nat → Prop} {b w : World} {its : List Item} {c : Item} {x : Gl01Source} {d : Value} (h : M St b w (c :: its)) (e : qk c x.code d) : M St b w (own NoB x (cat [[d],enc x.at0,enc x.hash]) :: its):=h.packL (m:=[_]) (X4 noB) λfp h=>by obtain ⟨_,_,rfl,_,f,rfl⟩:=h; exact ka (e _ _ f) (by simp)
theorem Zh0 {St : Nat → Prop} {c w : World} {its : List Item} {x : Gl01Source} {b : Value} (h : M St c w (own NoB x (cat [[b],enc x.at0,enc x.hash]) :: its)) : M St c w (own NoB x.code [b] :: its):=h.unpackL (m:=[own NoB x.code [b]]) λfp h=>by obtain ⟨_,rfl,d⟩:=jg h; exact Xm.one (X4 noB) d
structure GCipher where
 Field : Int
 Box : V256
 Mix : (Vector (Vector UInt8 4) 4)
 Places : V16
 Rounds : Int
 deriving DecidableEq,Inhabited
instance : Dat GCipher:=⟨λx=>Dat.bd (α:=Int × V256 × (Vector (Vector UInt8 4) 4) × V16 × Int) (x.Field,x.Box,x.Mix,x.Places,x.Rounds),λx=>Dat.sz (α:=Int × V256 × (Vector (Vector UInt8 4) 4) × V16 × Int) (x.Field,x.Box,x.Mix,x.Places,x.Rounds) + 1⟩
instance : Flat GCipher where
 n:=290
 enc x:=cat [enc x.Field,enc x.Box,enc x.Mix,enc x.Places,enc x.Rounds]
 len x:=yN (cl1 (Flat.len _) (cl1 (Flat.len _) (cl1 (Flat.len _) (cl1 (Flat.len _) (cl1 (Flat.len _) cl0)))))
 cell x:=ZC (cc1 (Flat.cell _) (cc1 (Flat.cell _) (cc1 (Flat.cell _) (cc1 (Flat.cell _) (cc1 (Flat.cell _) cc0)))))
structure Gengine where
 box : V256
 backBox : V256
 places : V16
 backPlaces : V16
 mixer : (Ref (Vector (Vector V256 4) 4))
 backMixer : (Ref (Vector (Vector V256 4) 4))
 rounds : Int
 deriving DecidableEq,Inhabited
instance : Dat Gengine:=⟨λx=>Dat.bd (α:=V256 × V256 × V16 × V16 × (Ref (Vector (Vector V256 4) 4)) × (Ref (Vector (Vector V256 4) 4)) × Int) (x.box,x.backBox,x.places,x.backPlaces,x.mixer,x.backMixer,x.rounds),λx=>Dat.sz (α:=V256 × V256 × V16 × V16 × (Ref (Vector (Vector V256 4) 4)) × (Ref (Vector (Vector V256 4) 4)) × Int) (x.box,x.backBox,x.places,x.backPlaces,x.mixer,x.backMixer,x.rounds) + 1⟩
instance : Rep Gengine:=repIso (α:=V256 × V256 × V16 × V16 × (Ref (Vector (Vector V256 4) 4)) × (Ref (Vector (Vector V256 4) 4)) × Int) (λx=>(x.box,x.backBox,x.places,x.backPlaces,x.mixer,x.backMixer,x.rounds))
theorem Zad {S : Nat → Prop} {w : World} {x : Gengine} {cs : List Value} {fp : List Nat} (h : Rep.sat S w x cs fp) : ∃ (b : Value) (c : Value),∃ (l : List Nat) (m : List Nat),cs = cat [enc x.box,enc x.backBox,enc x.places,enc x.backPlaces,[b],[c],enc x.rounds] ∧ fp = (l ++ m) ∧ Rep.sat S w x.mixer [b] l ∧ Rep.sat S w x.backMixer [c] m:=by
 obtain ⟨z,A,B,q0,rfl,rfl,q,d⟩:=h
 obtain ⟨rfl,rfl⟩:=q
 obtain ⟨C,E,F,q1,rfl,rfl,t,e⟩:=d
 obtain ⟨rfl,rfl⟩:=t
 obtain ⟨G,K,L,q2,rfl,rfl,u,f⟩:=e
 obtain ⟨rfl,rfl⟩:=u
 obtain ⟨N,O,T,q3,rfl,rfl,y,i⟩:=f
 obtain ⟨rfl,rfl⟩:=y
 obtain ⟨U,W,X,q4,rfl,rfl,n,j⟩:=i
 obtain ⟨b,rfl⟩:=yM n
 obtain ⟨Y,Z,f5,q5,rfl,rfl,o,k⟩:=j
 obtain ⟨c,rfl⟩:=yM o
 obtain ⟨rfl,rfl⟩:=k
 exact ⟨b,c,_,_,R,by simp,n,o⟩
theorem Zja {S : Nat → Prop} {w : World} {x : Gengine} {d e : Value} {fp : List Nat} (h : Rep.sat S w x (cat [enc x.box,enc x.backBox,enc x.places,enc x.backPlaces,[d],[e],enc x.rounds]) fp) : ∃ (b : List Nat) (c : List Nat),fp = (b ++ c) ∧ Rep.sat S w x.mixer [d] b ∧ Rep.sat S w x.backMixer [e] c:=by
 obtain ⟨t,u,b,c,hc,hf,f,i⟩:=Zad h
 obtain ⟨y,j⟩:=Vo hc R
 obtain ⟨z,k⟩:=Vo j R
 obtain ⟨A,l⟩:=Vo k R
 obtain ⟨B,m⟩:=Vo l R
 obtain ⟨n,o⟩:=Vo m R
 obtain ⟨q,C⟩:=Vo o R
 obtain rfl:=(List.cons.inj n).1
 obtain rfl:=(List.cons.inj q).1
 exact ⟨b,c,hf,f,i⟩
theorem KJ {S : Nat → Prop} {w : World} {x : Gengine} {cs : List Value} (h : Rep.sat S w x cs []) : ∃ b c,cs = cat [enc x.box,enc x.backBox,enc x.places,enc x.backPlaces,[b],[c],enc x.rounds] ∧ Rep.sat S w x.mixer [b] [] ∧ Rep.sat S w x.backMixer [c] []:=by
 obtain ⟨E,F,G,K,rfl,d,z,e⟩:=h
 obtain ⟨rfl,rfl⟩:=List.append_eq_nil_iff.1 d.symm
 obtain ⟨rfl,_⟩:=z
 obtain ⟨L,N,O,T,rfl,f,A,i⟩:=e
 obtain ⟨rfl,rfl⟩:=List.append_eq_nil_iff.1 f.symm
 obtain ⟨rfl,_⟩:=A
 obtain ⟨U,W,X,Y,rfl,j,B,k⟩:=i
 obtain ⟨rfl,rfl⟩:=List.append_eq_nil_iff.1 j.symm
 obtain ⟨rfl,_⟩:=B
 obtain ⟨Z,d3,f3,g3,rfl,l,C,m⟩:=k
 obtain ⟨rfl,rfl⟩:=List.append_eq_nil_iff.1 l.symm
 obtain ⟨rfl,_⟩:=C
 obtain ⟨c4,d4,f4,g4,rfl,n,u,o⟩:=m
 obtain ⟨rfl,rfl⟩:=List.append_eq_nil_iff.1 n.symm
 obtain ⟨b,rfl⟩:=yM u
 obtain ⟨c5,d5,f5,g5,rfl,q,y,t⟩:=o
 obtain ⟨rfl,rfl⟩:=List.append_eq_nil_iff.1 q.symm
 obtain ⟨c,rfl⟩:=yM y
 obtain ⟨rfl,_⟩:=t
 exact ⟨b,c,R,u,y⟩
theorem Zc0 {S : Nat → Prop} {w : World} {x : Gengine} {d e : Value} {c b fp : List Nat} (f : Rep.sat S w x.mixer [d] c) (h : Rep.sat S w x.backMixer [e] b) (hfp : fp = (c ++ b)) : Rep.sat S w x (cat [enc x.box,enc x.backBox,enc x.places,enc x.backPlaces,[d],[e],enc x.rounds]) fp:=by
 rw [hfp]
 refine ⟨_,_,[],(c ++ b),R,(by simp),⟨R,R⟩,?_⟩
 refine ⟨_,_,[],(c ++ b),R,(by simp),⟨R,R⟩,?_⟩
 refine ⟨_,_,[],(c ++ b),R,(by simp),⟨R,R⟩,?_⟩
 refine ⟨_,_,[],(c ++ b),R,(by simp),⟨R,R⟩,?_⟩
 refine ⟨_,_,c,b,R,(by simp),f,?_⟩
 refine ⟨_,_,b,[],R,(by simp),h,?_⟩
 exact ⟨R,R⟩
structure Gdice where
 b : (List UInt8)
 i : Int
 h : Int
 deriving DecidableEq,Inhabited
instance : Dat Gdice:=⟨λx=>Dat.bd (α:=(List UInt8) × Int × Int) (x.b,x.i,x.h),λx=>Dat.sz (α:=(List UInt8) × Int × Int) (x.b,x.i,x.h) + 1⟩
instance : Rep Gdice:=repIso (α:=(List UInt8) × Int × Int) (λx=>(x.b,x.i,x.h))
abbrev cV (a b c : Value) (p : GVault):=cat [[a],[vI p.Next],[b],[c],enc p.Head]
abbrev cR (a b : Value) (p : GRecord):=cat [[vI p.Number],[vI p.Version],enc p.Nonce,[a],[b],enc p.Tag]
abbrev vcV (a b c : Value) (p : GVault):=Value.agg (cV a b c p).toArray
abbrev vcR (a b : Value) (p : GRecord):=Value.agg (cR a b p).toArray
abbrev xa:=[[(Value.slice none 0 0)],[vI 0],[(Value.slice none 0 0)],[(Value.slice none 0 0)],enc (Vector.replicate 32 (0 : UInt8))]
abbrev xb:=(Vector.replicate 16 (0 : UInt8))
abbrev xc:=(Vector.replicate 32 (0 : UInt8))
abbrev xd:=(Value.slice none 0 0)
abbrev xe:=(Vector.replicate 4 (Vector.replicate 4 (0 : UInt8)))
abbrev xf:=(Vector.replicate 256 (0 : UInt8))
abbrev xg:=(List UInt8)
abbrev xh:=(cat [[vI 0],[vI 0],enc xb,[xd],[xd],enc xc])
abbrev xi:=(cat xa)
abbrev xj:=(0 : Int)
abbrev xl:=(cat [[vI 0],enc xf,enc xe,enc xb,[vI 0]])
abbrev xm:=(Vector (Vector UInt8 4) 4)
abbrev xp:=(enc xb)
abbrev xq:=(List (Int × V32))
abbrev xr:=(enc xc)
abbrev xt:=(Value.int .i64)
abbrev xu:=(List GEvent)
abbrev xv:=(List V16)
abbrev xw:=(Vector (Vector V256 4) 4)
abbrev xx:=([] : List UInt8)
abbrev xy:=(Int × Int)
abbrev xz:=[vI 285]
abbrev xA:=[(Value.pointer none)]
abbrev xB:=(List Int)
abbrev xC:=((32 : Int))
abbrev xD:=((16 : Int))
abbrev xE:=(enc xe)
abbrev o_1:=@Option.some.inj
abbrev p_1:=@bind_some
abbrev s_1:=@Flat.cell
abbrev t_1:=@wp_region_lit
abbrev u_1:=@Flat.len
abbrev o_2:=@underlying22
abbrev p_2:=@wp_block
abbrev s_2:=@wp_seq
abbrev t_2:=@Rep.cell
abbrev u_2:=@wp_skip
abbrev o_3:=@underlying76
abbrev p_3:=@wp_ret
abbrev s_3:=@underlying75
abbrev t_3:=@underlying5
abbrev u_3:=@underlying53
abbrev o_4:=@wp_exit
abbrev p_4:=@underlying77
abbrev s_4:=@underlying2
abbrev t_4:=@underlying32
abbrev u_4:=@underlying59
abbrev o_5:=@Kept.refl
abbrev p_5:=@underlying26
abbrev s_5:=@underlying3
abbrev t_5:=@underlying57
abbrev u_5:=@underlying25
abbrev o_6:=@underlying56
abbrev p_6:=@underlying87
abbrev s_6:=@underlying51
abbrev t_6:=@underlying322
abbrev u_6:=@underlying320
abbrev o_7:=@underlying187
abbrev p_7:=@underlying60
abbrev s_7:=@underlying55
theorem Zej {S : Nat → Prop} {w : World} {x : Gdice} {cs : List Value} {fp : List Nat} (h : Rep.sat S w x cs fp) : ∃ c : Value,∃ (f : List Nat),cs = cat [[c],enc x.i,enc x.h] ∧ fp = f ∧ Rep.sat S w x.b [c] f:=by
 obtain ⟨l,m,n,q0,rfl,rfl,j,d⟩:=h
 obtain ⟨c,rfl⟩:=QH j
 obtain ⟨o,q,t,q1,rfl,rfl,k,e⟩:=d
 obtain ⟨rfl,rfl⟩:=k
 obtain ⟨rfl,rfl⟩:=e
 exact ⟨c,_,R,by simp,j⟩
theorem Zeo {S : Nat → Prop} {w : World} {x : Gdice} {d : Value} {fp : List Nat} (h : Rep.sat S w x (cat [[d],enc x.i,enc x.h]) fp) : ∃ (c : List Nat),fp = c ∧ Rep.sat S w x.b [d] c:=by
 obtain ⟨k,c,hc,hf,e⟩:=Zej h
 obtain ⟨f,j⟩:=Vo hc R
 obtain ⟨l,m⟩:=Vo j R
 obtain rfl:=(List.cons.inj f).1
 exact ⟨c,hf,e⟩
theorem un_Gdice {S : Nat → Prop} {w : World} {x : Gdice} {cs : List Value} (h : Rep.sat S w x cs []) : ∃ c,cs = cat [[c],enc x.i,enc x.h] ∧ Rep.sat S w x.b [c] []:=by
 obtain ⟨m,n,o,q,rfl,d,k,e⟩:=h
 obtain ⟨rfl,rfl⟩:=List.append_eq_nil_iff.1 d.symm
 obtain ⟨c,rfl⟩:=QH k
 obtain ⟨t,u,y,z,rfl,f,l,j⟩:=e
 obtain ⟨rfl,rfl⟩:=List.append_eq_nil_iff.1 f.symm
 obtain ⟨rfl,_⟩:=l
 obtain ⟨rfl,_⟩:=j
 exact ⟨c,R,k⟩
theorem Zf9 {S : Nat → Prop} {w : World} {x : Gdice} {d : Value} {c fp : List Nat} (e : Rep.sat S w x.b [d] c) (hfp : fp = c) : Rep.sat S w x (cat [[d],enc x.i,enc x.h]) fp:=by
 rw [hfp]
 refine ⟨_,_,c,[],R,(by simp),e,?_⟩
 refine ⟨_,_,[],[],R,(by simp),⟨R,R⟩,?_⟩
 exact ⟨R,R⟩
theorem pm_Gdice {St : Nat → Prop} {c w : World} {its : List Item} {d : Item} {x : Gdice} {e : Value} (h : M St c w (d :: its)) (f : qk d x.b e) : M St c w (own NoB x (cat [[e],enc x.i,enc x.h]) :: its):=h.packL (m:=[_]) (X4 noB) λfp h=>by obtain ⟨_,_,rfl,_,j,rfl⟩:=h; exact Zf9 (f _ _ j) (by simp)
theorem um_Gdice {St : Nat → Prop} {d w : World} {its : List Item} {x : Gdice} {c : Value} (h : M St d w (own NoB x (cat [[c],enc x.i,enc x.h]) :: its)) : M St d w (own NoB x.b [c] :: its):=h.unpackL (m:=[own NoB x.b [c]]) λfp h=>by obtain ⟨_,rfl,e⟩:=Zeo h; exact Xm.one (X4 noB) e
theorem ty2 : Ty prog 2 (.int .i64) 1 8 (enc xj):=⟨s_4,by kernel_rfl⟩
theorem ty3 : Ty prog 3 (.int .i64) 1 8 (enc xj):=⟨s_5,by kernel_rfl⟩
theorem ty5 : Ty prog 5 (.int .u8) 1 1 (enc (0 : UInt8)):=⟨t_3,by kernel_rfl⟩
theorem X7 : Ty prog 22 (.slice 5) 1 24 [.slice none 0 0]:=⟨o_2,by kernel_rfl⟩
theorem Zda : Ty prog 26 (.slice 2) 1 24 [.slice none 0 0]:=⟨p_5,by kernel_rfl⟩
theorem Yq : Ty prog 32 (.array 32 5) 32 32 xr:=⟨t_4,by kernel_rfl⟩
theorem yk : Ty prog 51 (.int .u64) 1 8 [.int .u64 0]:=⟨s_6,by kernel_rfl⟩
theorem ZE : Ty prog 53 (.array 16 5) 16 16 xp:=⟨u_3,by kernel_rfl⟩
theorem ty55 : Ty prog 55 (.array 256 5) 256 256 (enc xf):=⟨s_7,by kernel_rfl⟩
theorem TS : Ty prog 56 (.array 256 5) 256 256 (enc xf):=⟨o_6,by kernel_rfl⟩
theorem Tp : Ty prog 57 (.array 4 5) 4 4 (enc (Vector.replicate 4 (0 : UInt8))):=⟨t_5,by kernel_rfl⟩
theorem Jq : Ty prog 59 (.array 4 57) 16 16 xE:=⟨u_4,by kernel_rfl⟩
theorem BC : Ty prog 60 (.array 16 5) 16 16 xp:=⟨p_7,by kernel_rfl⟩
theorem Kq : Ty prog 62 (.struct [{ name := "Field", type := 2, offset := 0, embedded := false, tag := "", pkgPath := "", byteOffset := 0 }, { name := "Box", type := 56, offset := 1, embedded := false, tag := "", pkgPath := "", byteOffset := 8 }, { name := "Mix", type := 59, offset := 257, embedded := false, tag := "", pkgPath := "", byteOffset := 264 }, { name := "Places", type := 60, offset := 273, embedded := false, tag := "", pkgPath := "", byteOffset := 280 }, { name := "Rounds", type := 2, offset := 289, embedded := false, tag := "", pkgPath := "", byteOffset := 296 }].toArray) 290 304 (enc (⟨xj, xf, xe, xb, xj⟩ : GCipher)) := ⟨underlying62, by kernel_rfl⟩
theorem T0 : Ty prog 75 (.slice 53) 1 24 [.slice none 0 0]:=⟨s_3,by kernel_rfl⟩
theorem XO : Ty prog 76 (.slice 98) 1 24 [.slice none 0 0]:=⟨o_3,by kernel_rfl⟩
theorem Qy : Ty prog 77 (.slice 181) 1 24 [.slice none 0 0]:=⟨p_4,by kernel_rfl⟩
theorem ZF : Ty prog 79 (.struct [{ name := "Keys", type := 75, offset := 0, embedded := false, tag := "", pkgPath := "", byteOffset := 0 }, { name := "Next", type := 2, offset := 1, embedded := false, tag := "", pkgPath := "", byteOffset := 24 }, { name := "Records", type := 76, offset := 2, embedded := false, tag := "", pkgPath := "", byteOffset := 32 }, { name := "Events", type := 77, offset := 3, embedded := false, tag := "", pkgPath := "", byteOffset := 56 }, { name := "Head", type := 32, offset := 4, embedded := false, tag := "", pkgPath := "", byteOffset := 80 }].toArray) 36 112 (cat [[.slice none 0 0], (enc xj), [.slice none 0 0], [.slice none 0 0], xr]) := ⟨underlying79, by kernel_rfl⟩
theorem Yf : Ty prog 98 (.struct [{ name := "Number", type := 2, offset := 0, embedded := false, tag := "", pkgPath := "", byteOffset := 0 }, { name := "Version", type := 2, offset := 1, embedded := false, tag := "", pkgPath := "", byteOffset := 8 }, { name := "Nonce", type := 53, offset := 2, embedded := false, tag := "", pkgPath := "", byteOffset := 16 }, { name := "Label", type := 22, offset := 18, embedded := false, tag := "", pkgPath := "", byteOffset := 32 }, { name := "Body", type := 22, offset := 19, embedded := false, tag := "", pkgPath := "", byteOffset := 56 }, { name := "Tag", type := 32, offset := 20, embedded := false, tag := "", pkgPath := "", byteOffset := 80 }].toArray) 52 112 (cat [enc xj, (enc xj), xp, [.slice none 0 0], [.slice none 0 0], xr]) := ⟨underlying98, by kernel_rfl⟩
theorem Zd3 : Ty prog 148 (.struct [{ name := "b", type := 22, offset := 0, embedded := false, tag := "", pkgPath := "loop.example/g01182/laws", byteOffset := 0 }, { name := "i", type := 3, offset := 1, embedded := false, tag := "", pkgPath := "loop.example/g01182/laws", byteOffset := 24 }, { name := "h", type := 51, offset := 2, embedded := false, tag := "", pkgPath := "loop.example/g01182/laws", byteOffset := 32 }].toArray) 3 40 (cat [[.slice none 0 0], (enc xj), [.int .u64 0]]) := ⟨underlying148, by kernel_rfl⟩
theorem Wc : Ty prog 181 (.struct [{ name := "Kind", type := 2, offset := 0, embedded := false, tag := "", pkgPath := "", byteOffset := 0 }, { name := "Number", type := 2, offset := 1, embedded := false, tag := "", pkgPath := "", byteOffset := 8 }, { name := "Tag", type := 32, offset := 2, embedded := false, tag := "", pkgPath := "", byteOffset := 16 }].toArray) 34 48 (enc (⟨xj, xj, xc⟩ : GEvent)) := ⟨underlying181, by kernel_rfl⟩
theorem Zdu : Ty prog 210 (.struct [{ name := "code", type := 22, offset := 0, embedded := false, tag := "", pkgPath := "loop.example/g01182/spec", byteOffset := 0 }, { name := "at", type := 3, offset := 1, embedded := false, tag := "", pkgPath := "loop.example/g01182/spec", byteOffset := 24 }, { name := "hash", type := 51, offset := 2, embedded := false, tag := "", pkgPath := "loop.example/g01182/spec", byteOffset := 32 }].toArray) 3 40 (cat [[.slice none 0 0], (enc xj), [.int .u64 0]]) := ⟨underlying210, by kernel_rfl⟩
theorem Zgh : Ty prog 277 (.pointer 322) 1 8 [.pointer none]:=⟨underlying277,by kernel_rfl⟩
theorem zV : Ty prog 280 (.struct [{ name := "box", type := 56, offset := 0, embedded := false, tag := "", pkgPath := "loop.example/g01182/impl", byteOffset := 0 }, { name := "backBox", type := 56, offset := 256, embedded := false, tag := "", pkgPath := "loop.example/g01182/impl", byteOffset := 256 }, { name := "places", type := 60, offset := 512, embedded := false, tag := "", pkgPath := "loop.example/g01182/impl", byteOffset := 512 }, { name := "backPlaces", type := 60, offset := 528, embedded := false, tag := "", pkgPath := "loop.example/g01182/impl", byteOffset := 528 }, { name := "mixer", type := 277, offset := 544, embedded := false, tag := "", pkgPath := "loop.example/g01182/impl", byteOffset := 544 }, { name := "backMixer", type := 277, offset := 545, embedded := false, tag := "", pkgPath := "loop.example/g01182/impl", byteOffset := 552 }, { name := "rounds", type := 2, offset := 546, embedded := false, tag := "", pkgPath := "loop.example/g01182/impl", byteOffset := 560 }].toArray) 547 568 (cat [enc xf, (enc xf), xp, xp, [.pointer none], [.pointer none], (enc xj)]) := ⟨underlying280, by kernel_rfl⟩
theorem jc : Ty prog 320 (.array 4 55) 1024 1024 (enc (Vector.replicate 4 xf)):=⟨u_6,by kernel_rfl⟩
theorem ty322 : Ty prog 322 (.array 4 320) 4096 4096 (enc (Vector.replicate 4 (Vector.replicate 4 xf))):=⟨t_6,by kernel_rfl⟩
theorem qV : Fd prog 62 0 0:=VA Kq.und rfl rfl ty2 (by decide)
theorem zH : Fd prog 62 1 1:=VA Kq.und rfl rfl TS (by decide)
theorem jb : Fd prog 62 2 257:=VA Kq.und rfl rfl Jq (by decide)
theorem yW : Fd prog 62 3 273:=VA Kq.und rfl rfl BC (by decide)
theorem Zb9 : Fd prog 62 4 289:=VA Kq.und rfl rfl ty2 (by decide)
theorem XA : Fd prog 79 0 0:=VA ZF.und rfl rfl T0 (by decide)
theorem UA : Fd prog 79 1 1:=VA ZF.und rfl rfl ty2 (by decide)
theorem Yn : Fd prog 79 2 2:=VA ZF.und rfl rfl XO (by decide)
theorem XU : Fd prog 79 3 3:=VA ZF.und rfl rfl Qy (by decide)
theorem He : Fd prog 79 4 4:=VA ZF.und rfl rfl Yq (by decide)
theorem VS : Fd prog 98 0 0:=VA Yf.und rfl rfl ty2 (by decide)
theorem Qe : Fd prog 98 1 1:=VA Yf.und rfl rfl ty2 (by decide)
theorem JT : Fd prog 98 2 2:=VA Yf.und rfl rfl ZE (by decide)
theorem Ko : Fd prog 98 3 18:=VA Yf.und rfl rfl X7 (by decide)
theorem Uy : Fd prog 98 4 19:=VA Yf.und rfl rfl X7 (by decide)
theorem Tl : Fd prog 98 5 20:=VA Yf.und rfl rfl Yq (by decide)
theorem Zdx : Fd prog 148 0 0:=VA Zd3.und rfl rfl X7 (by decide)
theorem yH : Fd prog 148 1 1:=VA Zd3.und rfl rfl ty3 (by decide)
theorem A0 : Fd prog 148 2 2:=VA Zd3.und rfl rfl yk (by decide)
theorem Hp : Fd prog 181 0 0:=VA Wc.und rfl rfl ty2 (by decide)
theorem Hk : Fd prog 181 1 1:=VA Wc.und rfl rfl ty2 (by decide)
theorem qB : Fd prog 181 2 2:=VA Wc.und rfl rfl Yq (by decide)
theorem Zdq : Fd prog 210 0 0:=VA Zdu.und rfl rfl X7 (by decide)
theorem yK : Fd prog 210 1 1:=VA Zdu.und rfl rfl ty3 (by decide)
theorem Aj : Fd prog 210 2 2:=VA Zdu.und rfl rfl yk (by decide)
theorem qQ : Fd prog 280 0 0:=VA zV.und rfl rfl TS (by decide)
theorem fd280_1 : Fd prog 280 1 256:=VA zV.und rfl rfl TS (by decide)
theorem Zio : Fd prog 280 2 512:=VA zV.und rfl rfl BC (by decide)
theorem fd280_3 : Fd prog 280 3 528:=VA zV.und rfl rfl BC (by decide)
theorem Zie : Fd prog 280 4 544:=VA zV.und rfl rfl Zgh (by decide)
theorem fd280_5 : Fd prog 280 5 545:=VA zV.und rfl rfl Zgh (by decide)
theorem Zif : Fd prog 280 6 546:=VA zV.und rfl rfl ty2 (by decide)
theorem pl62 : Places prog [{ name := "Field", type := 2, offset := 0, embedded := false, tag := "", pkgPath := "", byteOffset := 0 }, { name := "Box", type := 56, offset := 1, embedded := false, tag := "", pkgPath := "", byteOffset := 8 }, { name := "Mix", type := 59, offset := 257, embedded := false, tag := "", pkgPath := "", byteOffset := 264 }, { name := "Places", type := 60, offset := 273, embedded := false, tag := "", pkgPath := "", byteOffset := 280 }, { name := "Rounds", type := 2, offset := 289, embedded := false, tag := "", pkgPath := "", byteOffset := 296 }] [(0, 1), (1, 256), (257, 16), (273, 16), (289, 1)] := by show _ = _; kernel_rfl
theorem Kd : Places prog [{ name := "Keys", type := 75, offset := 0, embedded := false, tag := "", pkgPath := "", byteOffset := 0 }, { name := "Next", type := 2, offset := 1, embedded := false, tag := "", pkgPath := "", byteOffset := 24 }, { name := "Records", type := 76, offset := 2, embedded := false, tag := "", pkgPath := "", byteOffset := 32 }, { name := "Events", type := 77, offset := 3, embedded := false, tag := "", pkgPath := "", byteOffset := 56 }, { name := "Head", type := 32, offset := 4, embedded := false, tag := "", pkgPath := "", byteOffset := 80 }] [(0, 1), (1, 1), (2, 1), (3, 1), (4, 32)] := by show _ = _; kernel_rfl
theorem pl98 : Places prog [{ name := "Number", type := 2, offset := 0, embedded := false, tag := "", pkgPath := "", byteOffset := 0 }, { name := "Version", type := 2, offset := 1, embedded := false, tag := "", pkgPath := "", byteOffset := 8 }, { name := "Nonce", type := 53, offset := 2, embedded := false, tag := "", pkgPath := "", byteOffset := 16 }, { name := "Label", type := 22, offset := 18, embedded := false, tag := "", pkgPath := "", byteOffset := 32 }, { name := "Body", type := 22, offset := 19, embedded := false, tag := "", pkgPath := "", byteOffset := 56 }, { name := "Tag", type := 32, offset := 20, embedded := false, tag := "", pkgPath := "", byteOffset := 80 }] [(0, 1), (1, 1), (2, 16), (18, 1), (19, 1), (20, 32)] := by show _ = _; kernel_rfl
theorem pl148 : Places prog [{ name := "b", type := 22, offset := 0, embedded := false, tag := "", pkgPath := "loop.example/g01182/laws", byteOffset := 0 }, { name := "i", type := 3, offset := 1, embedded := false, tag := "", pkgPath := "loop.example/g01182/laws", byteOffset := 24 }, { name := "h", type := 51, offset := 2, embedded := false, tag := "", pkgPath := "loop.example/g01182/laws", byteOffset := 32 }] [(0, 1), (1, 1), (2, 1)] := by show _ = _; kernel_rfl
theorem kS : Places prog [{ name := "Kind", type := 2, offset := 0, embedded := false, tag := "", pkgPath := "", byteOffset := 0 }, { name := "Number", type := 2, offset := 1, embedded := false, tag := "", pkgPath := "", byteOffset := 8 }, { name := "Tag", type := 32, offset := 2, embedded := false, tag := "", pkgPath := "", byteOffset := 16 }] [(0, 1), (1, 1), (2, 32)] := by show _ = _; kernel_rfl
theorem pl210 : Places prog [{ name := "code", type := 22, offset := 0, embedded := false, tag := "", pkgPath := "loop.example/g01182/spec", byteOffset := 0 }, { name := "at", type := 3, offset := 1, embedded := false, tag := "", pkgPath := "loop.example/g01182/spec", byteOffset := 24 }, { name := "hash", type := 51, offset := 2, embedded := false, tag := "", pkgPath := "loop.example/g01182/spec", byteOffset := 32 }] [(0, 1), (1, 1), (2, 1)] := by show _ = _; kernel_rfl
theorem pl280 : Places prog [{ name := "box", type := 56, offset := 0, embedded := false, tag := "", pkgPath := "loop.example/g01182/impl", byteOffset := 0 }, { name := "backBox", type := 56, offset := 256, embedded := false, tag := "", pkgPath := "loop.example/g01182/impl", byteOffset := 256 }, { name := "places", type := 60, offset := 512, embedded := false, tag := "", pkgPath := "loop.example/g01182/impl", byteOffset := 512 }, { name := "backPlaces", type := 60, offset := 528, embedded := false, tag := "", pkgPath := "loop.example/g01182/impl", byteOffset := 528 }, { name := "mixer", type := 277, offset := 544, embedded := false, tag := "", pkgPath := "loop.example/g01182/impl", byteOffset := 544 }, { name := "backMixer", type := 277, offset := 545, embedded := false, tag := "", pkgPath := "loop.example/g01182/impl", byteOffset := 552 }, { name := "rounds", type := 2, offset := 546, embedded := false, tag := "", pkgPath := "loop.example/g01182/impl", byteOffset := 560 }] [(0, 256), (256, 256), (512, 16), (528, 16), (544, 1), (545, 1), (546, 1)] := by show _ = _; kernel_rfl
theorem Yt : prog.follows .mixedOrders = true:=by kernel_rfl
theorem cb29 : Callable prog 29:=cbm func29
theorem cb43 : Callable prog 43:=cbm func43
theorem cb47 : Callable prog 47:=cbm func47
theorem cb48 : Callable prog 48:=cbm func48
theorem cb50 : Callable prog 50:=cbm func50
theorem Ju : Callable prog 79:=cbm func79
theorem cb84 : Callable prog 84:=cbm func84
theorem cb91 : Callable prog 91:=cbm func91
theorem cb96 : Callable prog 96:=cbm func96
theorem BI : Callable prog 108:=cbm func108
theorem zU : Callable prog 132:=cbm func132
theorem Zd0 : Callable prog 133:=cbm func133
theorem AE : Callable prog 135:=cbm func135
theorem Zd6 : Callable prog 136:=cbm func136
theorem Zgg : Callable prog 137:=cbm func137
theorem Zdi : Callable prog 139:=cbm func139
theorem kL : Callable prog 140:=cbm func140
theorem Zf2 : Callable prog 141:=cbm func141
theorem kC : Callable prog 146:=cbm func146
theorem jz : Callable prog 148:=cbm func148
theorem Zah : Callable prog 149:=cbm func149
theorem Zdr : Callable prog 151:=cbm func151
theorem Zhb : Callable prog 152:=cbm func152
theorem Zhm : Callable prog 153:=cbm func153
theorem Zea : Callable prog 154:=cbm func154
theorem Zhk : Callable prog 163:=cbm func163
theorem Zfr : Callable prog 179:=cbm func179
theorem Zd2 : Callable prog 191:=cbm func191
theorem Zhs : Callable prog 201:=cbm func201
theorem kB : Callable prog 206:=cbm func206
theorem qf : Callable prog 210:=cbm func210
theorem Zf8 : Callable prog 232:=cbm func232
theorem Zg2 : Callable prog 235:=cbm func235
theorem Zec : Callable prog 241:=cbm func241
theorem Zdo : Callable prog 243:=cbm func243
theorem zP : Callable prog 289:=cbm func289
theorem Zeb : Callable prog 305:=cbm func305
theorem Zat : Callable prog 311:=cbm func311
def BZ (b : (List UInt8)) : Option (Bool) :=
 some (decide ((b.length : Int) > 4096))
theorem Zcu (d : World) (e : xg) (b : Value) (c : Ro d e [b]) (r : Bool) (J : BZ e = some r) :
  Calls prog 7 [b].toArray d (Rt d (vT r)):=by
 refine ce func7 ?_
 intro a H
 have I:=M.start d
 unfold BZ at J
 refine Zb (Zc H R λa H=>Ze (Zb (Zd H R λa H=>YE H R o_2 (I.rd c) λa H=>Zn H R R R λa H=>Zc H R λa H=>Ze ?_)))
 obtain rfl:=o_1 J
 exact p_3 (kr1 H R R I.kept)
def QY (e : (List UInt8)) (b : Int × Int) : Option (Fl (Int × Int) Int) :=
 (if decide (b.2 < (e.length : Int)) then (some (decide (b.2 < 4096))) else (some false) : Option (Bool)).bind λc=>if c then ((idx e b.2).bind λd=>some (Fl.nx (IntKind.u64.wrap ((IntKind.u64.wrap ((IntKind.u64.wrap (b.1 * 1099511628211)) + (bI d))) + 11),wr (b.2 + 1)))) else (some (Fl.ex b.1))
def UT (b : (List UInt8)) : Option ((Int × Int)) :=
 (ZQ (QY b) (IntKind.u64.wrap (9001 + (IntKind.u64.wrap (b.length : Int))),0)).bind λc=>some (0,c)
theorem Bc (St : Nat → Prop) (W B : World) (n : Item) (l : xg) (c : Value) (e : Rep.sat St W l [c] []) (I : M St W B [n]) (r : xy) (J : UT l = some r) :
  Calls prog 77 [c].toArray B (e_r λv w'=>(∃ (b : Nat),v = ptr b 0 ∧ M St W w' [raw b (cat [[c],[vI r.1],[Value.int .u64 r.2]]),n])):=by
 refine ce func77 ?_
 intro a H
 unfold UT at J
 refine Zb (Zc H R λa H=>Ze (Zb (Zd H R λa H=>Zd H R λa H=>YE H R o_2 (I.rd e) λa H=>JN H Za ld R s_5 s_6 λa H=>Zn H R R R λa H=>ZY (parts:=[(0,.tmp 5),(2,.tmp 9)]) (vs:=[(0,c),(2,Value.int .u64 (IntKind.u64.wrap (9001 + (IntKind.u64.wrap (l.length : Int)))))]) (cs:=cat [[c],[vI 0],[Value.int .u64 (IntKind.u64.wrap (9001 + (IntKind.u64.wrap (l.length : Int))))]]) H Za ld R R Zdu pl210 (ZT (pre:=[]) (seg:=[xd]) (seg':=[c]) (post:=[[vI 0],[Value.int .u64 0]]) R cl0 R R (ZX (I.rd e)) (ZT (pre:=[[c],[vI 0]]) (seg:=[Value.int .u64 0]) (seg':=[Value.int .u64 (IntKind.u64.wrap (9001 + (IntKind.u64.wrap (l.length : Int))))]) (post:=[]) R ck R R R Yp)) λa H=>Z2 (cs:=cat [[c],[vI 0],[Value.int .u64 (IntKind.u64.wrap (9001 + (IntKind.u64.wrap (l.length : Int))))]]) H I Za ld R R λm w a I H=>Zc H R λa H=>Ze (s_2 (Zb (Zc H R λa H=>Ze ?_))))))
 obtain ⟨C,t,x⟩:=p_1 J
 refine Z7 (λa w=>Env 38 a [(3,ptr m 0)] ∧ M St W w [raw m (cat [[c],[vI 0],[Value.int .u64 C]]),n]) ?_ ?_
 ·refine p_2 ?_
  refine ZR (λ(i : Int × Int) a w=>Env 38 a [(0,c),(3,ptr m 0),(4,vI i.2)] ∧ M St W w [raw m (cat [[c],[vI 0],[Value.int .u64 i.1]]),n]) t ⟨H.s,I⟩ ?_
  rintro i a w ⟨H,I⟩ F o y
  unfold QY at o
  refine s_2 ?_
  obtain ⟨A,h,f⟩:=p_1 o
  refine ZJ (λa w=>Env 38 a [(0,c),(3,ptr m 0),(4,vI i.2),(19,vT A)] ∧ M St W w [raw m (cat [[c],[vI 0],[Value.int .u64 i.1]]),n]) ?_ ?_
  ·refine t_1 (Zd H R λa H=>Zd H R λa H=>YE H R o_2 (I.rd e) λa H=>Zn H R R R λa H=>Zd H R ?_); intro a H
   refine Ys (decide (i.2 < (l.length : Int))) (λd=>?_) (λd=>?_)
   ·have h:=Zt h d
    refine Zo H (Zi H R (lkb R d)) (by decide) R λa H=>Z8 H (Zi H R (lkb R d)) (by decide) R R R λa H=>ZU H (lkb R d) R λa H=>Zj ?_
    obtain rfl:=o_1 h
    refine Zm ?_
    exact ⟨H.s,I⟩
   have h:=Zs h d
   refine k_s H d R R R λa H=>k_s H d R R R λa H=>Ye H (lkb R d) R λa H=>Zj ?_
   obtain rfl:=o_1 h
   refine Zm ?_
   exact ⟨H.s,I⟩
  rintro a w ⟨H,I⟩
  refine c_if H R f ?_ ?_
  ·intro q f
   refine u_2 (Zz (s_2 (p_2 ?_)))
   obtain ⟨j,k,f⟩:=bix f
   refine Z9 [22,23,24,25,26,27,28,29,30,31,32,33,34,35,36] Yt R R (by decide) R H I (q_m (λ_=>R) (q_m (λ_=>R) (qsP (λz=>Yj z.E Za ld R (kr0 R)) (qsP (λz=>Zg z.E Za ld R (Aj) (kr0 R)) (qsP (λz=>Zy (v:=(Value.int .u64 i.1)) z.E Za ld R yk R (at_2 (z.M.ra0)) (kr0 R)) (qsP (v:=(Value.int .u64 (IntKind.u64.wrap (i.1 * 1099511628211)))) (λz=>Z8 z.E Za ld R R R (kr0 R)) (q_m (λ_=>R) (q_m (λ_=>R) (qsP (λz=>Yu z.E Za ld R R o_2 ty5 (z.M.rd e) k.1 (kr0 R)) (qsP (λz=>Zy (v:=(vB j)) z.E Za ld R ty5 R (Xe (z.M.rd e) k.2) (kr0 R)) (qsP (λz=>Zdh z.E Za ld R t_3 s_6 (kr0 R)) (qsP (v:=(Value.int .u64 (IntKind.u64.wrap ((IntKind.u64.wrap (i.1 * 1099511628211)) + (bI j))))) (λz=>Z8 z.E Za ld R R R (kr0 R)) (qsP (v:=(Value.int .u64 (IntKind.u64.wrap ((IntKind.u64.wrap ((IntKind.u64.wrap (i.1 * 1099511628211)) + (bI j))) + 11)))) (λz=>Z8 z.E Za ld R R R (kr0 R)) (qsP (λz=>Yj z.E Za ld R (kr0 R)) (qsP (λz=>Zg z.E Za ld R (Aj) (kr0 R)) qs0))))))))))))))) ?_
   ·intro a w u H I
    refine Zk (seg:=[Value.int .u64 (IntKind.u64.wrap ((IntKind.u64.wrap ((IntKind.u64.wrap (i.1 * 1099511628211)) + (bI j))) + 11))]) H I Za R R R yk R (YN (pre:=[[c],[vI 0]]) ck R) yO (Z4 (pre:=[[c],[vI 0]]) ck R) λw a I H=>Zj (YA (Zz (t_1 (Zd H R λa H=>Zn H R R R λa H=>Zc H R λa H=>Zj (Zm ?_)))))
    exact ⟨_,ois f,H.s,I⟩
  intro q f
  refine o_4 (Zu (Zu (YQ ?_)))
  obtain rfl:=y _ (ois f)
  refine Zm ?_
  exact ⟨H.s,I⟩
 rintro a w ⟨H,I⟩
 refine Zz (Zb (Zd H R λa H=>Zc H R λa H=>Ze ?_))
 obtain rfl:=o_1 x
 exact p_3 (ZV H R (ZD H R) ⟨_,R,m,R,I⟩)
def Z5 (c : (List UInt8)) (b : (Int × Int)) (d : Int) : Option ((Int × Int) × Int) :=
 if decide (d < 1) then (some ((b.1,b.2),0)) else (((some (decide (b.1 < (c.length : Int))) : Option (Bool)).bind λi=>if i then (((idx c b.1).bind λe=>some (wr ((IntKind.i64.wrap (wru (BitVec.ofInt 64 (WG (IntKind.u64.wrap ((IntKind.u64.wrap (b.2 * 6364136223846793005)) + 1442695040888963407)) 33) &&& BitVec.ofInt 64 16777215).toNat)) + (bI e))) : Option (Int)).bind λf=>some (wr (b.1 + 1),f)) else (some (b.1,IntKind.i64.wrap (wru (BitVec.ofInt 64 (WG (IntKind.u64.wrap ((IntKind.u64.wrap (b.2 * 6364136223846793005)) + 1442695040888963407)) 33) &&& BitVec.ofInt 64 16777215).toNat))) : Option (Int × Int)).bind λh=>(JF d).bind λ_=>some ((h.1,IntKind.u64.wrap ((IntKind.u64.wrap (b.2 * 6364136223846793005)) + 1442695040888963407)),Int.tmod h.2 d))
theorem Yh (St : Nat → Prop) (W C : World) (m : Item) (d : Nat) (i : xg) (b : Value) (e : Rep.sat St W i [b] []) (c : xy) (n : Int) (I : M St W C [raw d (cat [[b],[vI c.1],[Value.int .u64 c.2]]),m]) (r : xy × Int) (J : Z5 i c n = some r) :
  Calls prog 79 [ptr d 0,vI n].toArray C (e_r λv w'=>(v = (vI r.2) ∧ M St W w' [raw d (cat [[b],[vI r.1.1],[Value.int .u64 r.1.2]]),m])):=by
 refine ce func79 ?_
 intro a H
 unfold Z5 at J
 refine Zb (Zc H R λa H=>Ze (s_2 (Zb (Zd H R λa H=>Zn H R R R λa H=>Ze ?_))))
 refine c_if H R J ?_ ?_
 ·intro x J
  refine Zb (Zc H R λa H=>Ze ?_)
  obtain rfl:=o_1 J
  exact p_3 (ZI (ZV H R (ZD H R) ⟨_,R,R,I⟩))
 intro x J
 refine u_2 (Zz (Zb (Zd H R λa H=>Zd H R λa H=>Yj H Za ld R λa H=>Zl H R (Aj) λa H=>ZB (v:=(Value.int .u64 c.2)) H R yk R (at_2 I.ra0) λa H=>Zn H R R R λa H=>Zn H R R R λa H=>Yj H Za ld R λa H=>Zl H R (Aj) λa H=>Zk (seg:=[Value.int .u64 (IntKind.u64.wrap ((IntKind.u64.wrap (c.2 * 6364136223846793005)) + 1442695040888963407))]) H I Za R R R yk R (YN (pre:=[[b],[vI c.1]]) ck R) yO (Z4 (pre:=[[b],[vI c.1]]) ck R) λw a I H=>Ze (Zb (Zd H R λa H=>Yj H Za ld R ?_))))); intro a H
 refine Zl H R (Aj) λa H=>ZB (v:=(Value.int .u64 (IntKind.u64.wrap ((IntKind.u64.wrap (c.2 * 6364136223846793005)) + 1442695040888963407)))) H R yk R (at_2 I.ra0) λa H=>BF H Za ld R R (Zfv _ _ (by decide)) λa H=>Zn H R R R λa H=>JN H Za ld R s_6 s_4 λa H=>Zc H R λa H=>Ze ?_
 obtain ⟨F,y,k⟩:=p_1 J
 refine ZJ (λa w=>Env 58 a [(1,vI n),(5,vI F.2)] ∧ M St W w [raw d (cat [[b],[vI F.1],[Value.int .u64 (IntKind.u64.wrap ((IntKind.u64.wrap (c.2 * 6364136223846793005)) + 1442695040888963407))]]),m]) ?_ ?_
 ·obtain ⟨G,A,f⟩:=p_1 y
  refine ZJ (λa w=>Env 58 a [(0,ptr d 0),(1,vI n),(5,vI (IntKind.i64.wrap (wru (BitVec.ofInt 64 (WG (IntKind.u64.wrap ((IntKind.u64.wrap (c.2 * 6364136223846793005)) + 1442695040888963407)) 33) &&& BitVec.ofInt 64 16777215).toNat))),(33,vT G)] ∧ M St W w [raw d (cat [[b],[vI c.1],[Value.int .u64 (IntKind.u64.wrap ((IntKind.u64.wrap (c.2 * 6364136223846793005)) + 1442695040888963407))]]),m]) ?_ ?_
  ·refine Z9 [24,25,26,27,28,29,30,31,32,33] Yt R R (by decide) R H I (q_m (λ_=>R) (qsP (λz=>Yj z.E Za ld R (kr0 R)) (qsP (λz=>Zg z.E Za ld R (yK) (kr0 R)) (qsP (λz=>Zy (v:=(vI c.1)) z.E Za ld R ty3 R (at_1 (z.M.ra0)) (kr0 R)) (q_m (λ_=>R) (qsP (λz=>Yj z.E Za ld R (kr0 R)) (qsP (λz=>Zg z.E Za ld R (Zdq) (kr0 R)) (qsP (λz=>Zy (v:=b) z.E Za ld R X7 R (at_0 (z.M.ra0)) (kr0 R)) (qsP (λz=>WE z.E Za ld R o_2 (z.M.rd e) (kr0 R)) (qsP (λz=>Z8 z.E Za ld R R R (kr0 R)) qs0)))))))))) ?_
   ·intro a w u H I
    refine Zj ?_
    obtain rfl:=o_1 A
    refine Zm ?_
    exact ⟨H.s,I⟩
  rintro a w ⟨H,I⟩
  refine c_if H R f ?_ ?_
  ·intro o f
   obtain ⟨B,h,q⟩:=p_1 f
   refine ZJ (λa w=>Env 58 a [(0,ptr d 0),(1,vI n),(5,vI B)] ∧ M St W w [raw d (cat [[b],[vI c.1],[Value.int .u64 (IntKind.u64.wrap ((IntKind.u64.wrap (c.2 * 6364136223846793005)) + 1442695040888963407))]]),m]) ?_ ?_
   ·obtain ⟨t,j,h⟩:=bix h
    refine Z9 [34,35,36,37,38,39,40,41,42,43,44,45,46] Yt R R (by decide) R H I (q_m (λ_=>R) (q_m (λ_=>R) (qsP (λz=>Yj z.E Za ld R (kr0 R)) (qsP (λz=>Zg z.E Za ld R (Zdq) (kr0 R)) (qsP (λz=>Zy (v:=b) z.E Za ld R X7 R (at_0 (z.M.ra0)) (kr0 R)) (q_m (λ_=>R) (qsP (λz=>Yj z.E Za ld R (kr0 R)) (qsP (λz=>Zg z.E Za ld R (yK) (kr0 R)) (qsP (λz=>Zy (v:=(vI c.1)) z.E Za ld R ty3 R (at_1 (z.M.ra0)) (kr0 R)) (qsP (λz=>Yu z.E Za ld R R o_2 ty5 (z.M.rd e) j.1 (kr0 R)) (qsP (λz=>Zy (v:=(vB t)) z.E Za ld R ty5 R (Xe (z.M.rd e) j.2) (kr0 R)) (qsP (λz=>Bl z.E Za ld R t_3 s_4 (kr0 R)) (qsP (v:=(vI (wr ((IntKind.i64.wrap (wru (BitVec.ofInt 64 (WG (IntKind.u64.wrap ((IntKind.u64.wrap (c.2 * 6364136223846793005)) + 1442695040888963407)) 33) &&& BitVec.ofInt 64 16777215).toNat)) + (bI t))))) (λz=>Z8 z.E Za ld R R R (kr0 R)) qs0))))))))))))) ?_
    ·intro a w u H I
     refine Zc H R λa H=>Zj ?_
     obtain rfl:=o_1 h
     refine Zm ?_
     exact ⟨H.s,I⟩
   rintro a w ⟨H,I⟩
   refine t_1 (Zd H R λa H=>Zd H R λa H=>Yj H Za ld R λa H=>Zl H R (yK) λa H=>ZB (v:=(vI c.1)) H R ty3 R (at_1 I.ra0) λa H=>Zn H R R R λa H=>Yj H Za ld R λa H=>Zl H R (yK) λa H=>Zk (seg:=[vI (wr (c.1 + 1))]) H I Za R R R ty3 R (YN (pre:=[[b]]) ck R) (s_1 (wr (c.1 + 1) : Int)) (Z4 (pre:=[[b]]) ck R) λw a I H=>Zj ?_)
   obtain rfl:=o_1 q
   refine Zm ?_
   exact ⟨H.s,I⟩
  intro o f
  refine u_2 ?_
  obtain rfl:=o_1 f
  refine Zm ?_
  exact ⟨H.s,I⟩
 rintro a w ⟨H,I⟩
 refine Zb (Zd H R λa H=>Zd H R ?_); intro a H
 obtain ⟨_,l,k⟩:=p_1 k
 have l:=AW l
 refine Zn H R R (KG _ _ l) λa H=>Zc H R λa H=>Ze ?_
 obtain rfl:=o_1 k
 exact p_3 (ZV H R (ZD H R) ⟨_,R,R,I⟩)
def XB (b : (List UInt8)) (d : (Int × Int)) (e : (List Int)) : Option ((Int × Int) × Int) :=
 (Z5 b (d.1,d.2) (e.length : Int)).bind λc=>(idx e c.2).bind λf=>some ((c.1.1,c.1.2),f)
theorem VQ (St : Nat → Prop) (W k : World) (l : Item) (d : Nat) (c : xg) (b : Value) (e : Rep.sat St W c [b] []) (f : xy) (i : xB) (j : Value) (I : M St W k [raw d (cat [[b],[vI f.1],[Value.int .u64 f.2]]),osl NoB (i : List Int) j,l]) (r : xy × Int) (J : XB c f i = some r) :
  Calls prog 148 [ptr d 0,j].toArray k (e_r λv w'=>(v = (vI r.2) ∧ M St W w' [raw d (cat [[b],[vI r.1.1],[Value.int .u64 r.1.2]]),osl NoB (i : List Int) j,l])):=by
 refine ce func148 ?_
 intro a H
 unfold XB at J
 refine Zb (Zc H R λa H=>Ze (Zb (Zd H R λa H=>Zd H R λa H=>Zd H R λa H=>YE H R p_5 (I.sl1) ?_))); intro a H
 have I:=M.tailP (m:=[_]) I
 obtain ⟨n,o,J⟩:=p_1 J
 refine Zp H R Ju (Yh _ _ _ _ d c b e (f.1,f.2) (i.length : Int) I n o) ?_
 rintro v w a ⟨rfl,I⟩ H
 have I:=M.tailU (m:=[_]) I
 simp only [List.cons_append,List.nil_append] at I
 obtain ⟨q,h,J⟩:=bix J
 refine YG H R R p_5 ty2 (I.sl1) h.1 λa H=>ZB (v:=(vI q)) H R ty2 R (Xe (I.sl1) h.2) λa H=>Zc H R λa H=>Ze ?_
 obtain rfl:=o_1 J
 exact p_3 (ZV H R (ZD H R) ⟨_,R,R,I⟩)
def WO (b : (List UInt8)) (h : (Int × Int)) : Option ((Int × Int) × UInt8) :=
 (Z5 b (h.1,h.2) 4).bind λc=>(Z5 b (c.1.1,c.1.2) 256).bind λd=>(Z5 b (d.1.1,d.1.2) 256).bind λe=>(XB b (e.1.1,e.1.2) ([c.2,d.2,e.2,255] : List Int)).bind λf=>some ((f.1.1,f.1.2),Zv f.2)
theorem Jx (St : Nat → Prop) (W n : World) (o : Item) (e : Nat) (c : xg) (b : Value) (d : Rep.sat St W c [b] []) (j : xy) (I : M St W n [raw e (cat [[b],[vI j.1],[Value.int .u64 j.2]]),o]) (r : xy × UInt8) (J : WO c j = some r) :
  Calls prog 174 [ptr e 0].toArray n (e_r λv w'=>(v = (vB r.2) ∧ M St W w' [raw e (cat [[b],[vI r.1.1],[Value.int .u64 r.1.2]]),o])):=by
 refine ce func174 ?_
 intro a H
 unfold WO at J
 refine Zb (Zc H R λa H=>Ze (Zb (Zd H R λa H=>Zd H R ?_))); intro a H
 have I:=M.tailP (m:=[_]) I
 obtain ⟨f,q,J⟩:=p_1 J
 refine Zp H R Ju (Yh _ _ _ _ e c b d (j.1,j.2) 4 I f q) ?_
 rintro v w a ⟨rfl,I⟩ H
 have I:=M.tailU (m:=[_]) I
 simp only [List.cons_append,List.nil_append] at I
 refine Zd H R ?_; intro a H
 have I:=M.tailP (m:=[_]) I
 obtain ⟨h,t,J⟩:=p_1 J
 refine Zp H R Ju (Yh _ _ _ _ e c b d (f.1.1,f.1.2) 256 I h t) ?_
 rintro v w a ⟨rfl,I⟩ H
 have I:=M.tailU (m:=[_]) I
 simp only [List.cons_append,List.nil_append] at I
 refine Zd H R ?_; intro a H
 have I:=M.tailP (m:=[_]) I
 obtain ⟨i,u,J⟩:=p_1 J
 refine Zp H R Ju (Yh _ _ _ _ e c b d (h.1.1,h.1.2) 256 I i u) ?_
 rintro v w a ⟨rfl,I⟩ H
 have I:=M.tailU (m:=[_]) I
 simp only [List.cons_append,List.nil_append] at I
 refine ZL (xs:=[.tmp 5,.tmp 7,.tmp 9,.const (vI 255)]) (l:=([f.2,h.2,i.2,255] : List Int)) (vs:=[vI f.2,vI h.2,vI i.2,vI 255]) H I Za ld R R p_5 ty2 R (by decide) R ?_; intro x w a I H
 have I:=M.tailP (m:=[_,_]) I.pl1
 obtain ⟨y,k,J⟩:=p_1 J
 refine Zp H R jz (VQ _ _ _ _ e c b d (i.1.1,i.1.2) ([f.2,h.2,i.2,255] : List Int) x I y k) ?_
 rintro v w a ⟨rfl,I⟩ H
 have I:=M.tailU (m:=[_,_]) I
 simp only [List.cons_append,List.nil_append] at I
 refine YX H Za ld R s_4 t_3 λa H=>Zc H R λa H=>Ze ?_
 obtain rfl:=o_1 J
 have I:=(I.pl2.pl1.pl2).drop
 exact p_3 (ZV H R (ZD H R) ⟨_,R,R,I⟩)
def Uw (d : (List UInt8)) (b : V16 × Int × Int × Int) : Option (Fl (V16 × Int × Int × Int) (V16 × Int × Int)) :=
 if decide (b.2.2.2 < 16) then ((Z5 d (b.2.1,b.2.2.1) 256).bind λc=>(ZZ b.1 b.2.2.2).bind λe=>some (Fl.nx ((b.1.setIfInBounds (b.2.2.2).toNat (Zv c.2)),c.1.1,c.1.2,wr (b.2.2.2 + 1)))) else (some (Fl.ex (b.1,b.2.1,b.2.2.1)))
def Y3 (b : (List UInt8)) (h : (Int × Int)) : Option ((Int × Int) × V16) :=
 (Z5 b (h.1,h.2) 5).bind λe=>if e.2 == 0 then ((Z5 b (e.1.1,e.1.2) 16).bind λf=>(WO b (f.1.1,f.1.2)).bind λc=>(ZZ (Vector.replicate 16 (0 : UInt8)) f.2).bind λi=>some ((c.1.1,c.1.2),(Vector.replicate 16 (0 : UInt8)).setIfInBounds (f.2).toNat c.2)) else ((ZQ (Uw b) ((Vector.replicate 16 (0 : UInt8)),e.1.1,e.1.2,0)).bind λd=>some ((d.2.1,d.2.2),d.1))
theorem Wq (St : Nat → Prop) (W O : World) (C : Item) (e : Nat) (f : xg) (c : Value) (h : Rep.sat St W f [c] []) (q : xy) (I : M St W O [raw e (cat [[c],[vI q.1],[Value.int .u64 q.2]]),C]) (r : xy × V16) (J : Y3 f q = some r) :
  Calls prog 146 [ptr e 0].toArray O (e_r λv w'=>(v = (Value.agg (enc r.2).toArray) ∧ M St W w' [raw e (cat [[c],[vI r.1.1],[Value.int .u64 r.1.2]]),C])):=by
 refine ce func146 ?_
 intro a H
 unfold Y3 at J
 refine Zb (Zw H I ZE λE w a I H=>Ze (Zb (XT (parts:=[]) (vs:=[]) (cs:=enc xb) H Za ld R R ZE R ty5 Xj λa H=>Zw H I ZE λF w a I H=>Zk (seg:=enc xb) (cs':=enc xb) H I Za R R R ZE (u_1 _) (zle flq) (s_1 _) (Zh flq) λw a I H=>Ze (s_2 (Zb (Zd H R ?_)))))); intro a H
 have I:=M.tailP (m:=[_]) I.pl2
 obtain ⟨G,T,J⟩:=p_1 J
 refine Zp H R Ju (Yh _ _ _ _ e f c h (q.1,q.2) 5 I G T) ?_
 rintro v w a ⟨rfl,I⟩ H
 have I:=M.tailU (m:=[_]) I
 simp only [List.cons_append,List.nil_append] at I
 refine Zn H R R R λa H=>Ze ?_
 refine c_if H R J ?_ ?_
 ·intro K J
  refine Zb (Zd H R ?_); intro a H
  have I:=M.tailP (m:=[_]) I
  obtain ⟨o,U,J⟩:=p_1 J
  refine Zp H R Ju (Yh _ _ _ _ e f c h (G.1.1,G.1.2) 16 I o U) ?_
  rintro v w a ⟨rfl,I⟩ H
  have I:=M.tailU (m:=[_]) I
  simp only [List.cons_append,List.nil_append] at I
  refine Zd H R ?_; intro a H
  have I:=M.tailP (m:=[_]) I
  obtain ⟨i,L,J⟩:=p_1 J
  refine Zp H R (cbm func174) (Jx _ _ _ _ e f c h (o.1.1,o.1.2) I i L) ?_
  rintro v w a ⟨rfl,I⟩ H
  have I:=M.tailU (m:=[_]) I
  simp only [List.cons_append,List.nil_append] at I
  obtain ⟨X,k,J⟩:=bvx J
  refine ZO H R R u_3 ty5 k.1 ?_; intro a H
  have I:=I.pl1
  refine Zk (seg:=[vB i.2]) (cs':=enc (xb.setIfInBounds (o.2).toNat i.2)) H I Za R R R ty5 R (Ya (v:=xb) (x:=i.2) k.1) (s_1 (i.2 : UInt8)) (ZP (v:=xb) (x:=i.2) k.1) λw a I H=>Ze (Zb (Zq H R ZE R I.ra0 (u_1 _) ?_)); intro a H
  have I:=I.pl2
  refine Zk (seg:=enc (xb.setIfInBounds (o.2).toNat i.2)) (cs':=enc (xb.setIfInBounds (o.2).toNat i.2)) H I Za R R R ZE (u_1 _) (zle flq) (s_1 _) (Zh flq) λw a I H=>Ze ?_
  obtain rfl:=o_1 J
  have t : Yb prog _ _ (.cell 2 53) _:=ZG H R ZE R I.ra0 (u_1 _) R
  have I:=((I.pl3.pl3.pl3).drop.pl2).drop
  exact p_3 (ZI (ZV H R t ⟨_,R,R,I⟩))
 intro K J
 refine u_2 (Zz (s_2 (Zb (Zc H R λa H=>Ze ?_))))
 obtain ⟨l,u,y⟩:=p_1 J
 refine Z7 (λa w=>Env 25 a [(2,ptr E 0),(3,ptr F 0)] ∧ M St W w [raw e (cat [[c],[vI l.2.1],[Value.int .u64 l.2.2]]),raw F (enc l.1),raw E xp,C]) ?_ ?_
 ·refine p_2 ?_
  refine ZR (λ(d : V16 × Int × Int × Int) a w=>Env 25 a [(0,ptr e 0),(2,ptr E 0),(3,ptr F 0),(4,vI d.2.2.2)] ∧ M St W w [raw e (cat [[c],[vI d.2.1],[Value.int .u64 d.2.2.1]]),raw F (enc d.1),raw E xp,C]) u ⟨H.s,I⟩ ?_
  rintro d a w ⟨H,I⟩ Y b z
  unfold Uw at b
  refine s_2 (Zb (Zd H R λa H=>Zn H R R R λa H=>Ze ?_))
  refine c_if H R b ?_ ?_
  ·intro A b
   refine u_2 (Zz (s_2 (p_2 (t_1 (Zd H R λa H=>Zd H R ?_))))); intro a H
   have I:=M.tailP (m:=[_]) I
   obtain ⟨j,N,b⟩:=p_1 b
   refine Zp H R Ju (Yh _ _ _ _ e f c h (d.2.1,d.2.2.1) 256 I j N) ?_
   rintro v w a ⟨rfl,I⟩ H
   have I:=M.tailU (m:=[_]) I
   simp only [List.cons_append,List.nil_append] at I
   refine YX H Za ld R s_4 t_3 ?_; intro a H
   obtain ⟨Z,n,b⟩:=bvx b
   refine ZO H R R u_3 ty5 n.1 ?_; intro a H
   have I:=I.pl1
   refine Zk (seg:=[vB (Zv j.2)]) (cs':=enc (d.1.setIfInBounds (d.2.2.2).toNat (Zv j.2))) H I Za R R R ty5 R (Ya (v:=d.1) (x:=Zv j.2) n.1) (s_1 (Zv j.2 : UInt8)) (ZP (v:=d.1) (x:=Zv j.2) n.1) λw a I H=>Zj (YA (Zz (t_1 (Zd H R λa H=>Zn H R R R λa H=>Zc H R λa H=>Zj (Zm ?_)))))
   have I:=I.pl3.pl3.pl2.pl3
   exact ⟨_,ois b,H.s,I⟩
  intro A b
  refine o_4 (Zu (Zu (YQ ?_)))
  obtain rfl:=z _ (ois b)
  refine Zm ?_
  exact ⟨H.s,I⟩
 rintro a w ⟨H,I⟩
 refine Zz (Zb (Zq H R ZE R I.ra1 (u_1 _) ?_)); intro a H
 have I:=I.pl2
 refine Zk (seg:=enc l.1) (cs':=enc l.1) H I Za R R R ZE (u_1 _) (zle flq) (s_1 _) (Zh flq) λw a I H=>Ze ?_
 obtain rfl:=o_1 y
 have B : Yb prog _ _ (.cell 2 53) _:=ZG H R ZE R I.ra0 (u_1 _) R
 have I:=((I.pl3.pl2.pl3).drop.pl2).drop
 exact p_3 (ZV H R B ⟨_,R,R,I⟩)
def We (f : Int) (b : Int × Int × Int) : Option (Fl (Int × Int × Int) Int) :=
 if decide (b.2.2 > 0) then (((if (Int.tmod b.2.2 2) == 1 then (some (zy b.1 b.2.1)) else (some b.1) : Option (Int)).bind λc=>(if decide ((wr (b.2.1 * 2)) ≥ 256) then (some (zy (wr (b.2.1 * 2)) f)) else (some (wr (b.2.1 * 2))) : Option (Int)).bind λd=>some (c,d) : Option (Int × Int)).bind λe=>some (Fl.nx (e.1,e.2,wr (Int.tdiv b.2.2 2)))) else (some (Fl.ex b.1))
def XN (b : Int) (c : UInt8) (d : UInt8) : Option (UInt8) :=
 (ZQ (We b) (0,bI c,bI d)).bind λe=>some (Zv e)
theorem Tw (d : World) (h : Int) (z : UInt8) (A : UInt8) (r : UInt8) (J : XN h z A = some r) :
  Calls prog 311 [vI h,vB z,vB A].toArray d (Rt d (vB r)):=by
 refine ce func311 ?_
 intro a H
 have I:=M.start d
 unfold XN at J
 refine Zb (Zc H R λa H=>Ze (Zb (Zd H R λa H=>Bl H Za ld R t_3 s_4 λa H=>Zc H R λa H=>Zc H R λa H=>Ze (s_2 (Zb (Zd H R λa H=>Bl H Za ld R t_3 s_4 λa H=>Zc H R λa H=>Ze ?_))))))
 obtain ⟨C,q,t⟩:=p_1 J
 refine Z7 (λa w=>Env 33 a [(7,vI C)] ∧ M (Old d) d w []) ?_ ?_
 ·refine p_2 ?_
  refine ZR (λ(f : Int × Int × Int) a w=>Env 33 a [(0,vI h),(7,vI f.1),(8,vI f.2.1),(9,vI f.2.2)] ∧ M (Old d) d w []) q ⟨H.s,I⟩ ?_
  rintro f a w ⟨H,I⟩ E e u
  unfold We at e
  refine s_2 (Zb (Zd H R λa H=>Zn H R R R λa H=>Ze ?_))
  refine c_if H R e ?_ ?_
  ·intro x e
   refine u_2 (Zz ?_)
   obtain ⟨B,i,j⟩:=p_1 e
   refine ZJ (λa w=>Env 33 a [(0,vI h),(7,vI B.1),(8,vI B.2),(9,vI f.2.2)] ∧ M (Old d) d w []) ?_ ?_
   ·refine p_2 ?_
    obtain ⟨k,b,l⟩:=p_1 i
    refine ZJ (λa w=>Env 33 a [(0,vI h),(7,vI k),(8,vI f.2.1),(9,vI f.2.2)] ∧ M (Old d) d w []) ?_ ?_
    ·refine Zb (Zd H R λa H=>Zn H R R (KG _ _ (by decide)) λa H=>Zn H R R R λa H=>Ze ?_)
     refine c_if H R b ?_ ?_
     ·intro m b
      refine t_1 (Zd H R λa H=>Zd H R λa H=>Zn H R R R λa H=>Zc H R λa H=>Zj ?_)
      obtain rfl:=o_1 b
      refine Zm ?_
      exact ⟨H.s,I⟩
     intro m b
     refine u_2 ?_
     obtain rfl:=o_1 b
     refine Zm ?_
     exact ⟨H.s,I⟩
    rintro a w ⟨H,I⟩
    refine Zb (Zd H R λa H=>Zn H R R R λa H=>Zc H R λa H=>Ze (Zb (Zd H R λa H=>Zn H R R R λa H=>Ze ?_)))
    obtain ⟨y,c,n⟩:=p_1 l
    refine Z7 (λa w=>Env 33 a [(0,vI h),(7,vI k),(8,vI y),(9,vI f.2.2)] ∧ M (Old d) d w []) ?_ ?_
    ·refine c_if H R c ?_ ?_
     ·intro o c
      refine t_1 (Zd H R λa H=>Zd H R λa H=>Zn H R R R λa H=>Zc H R λa H=>Zj ?_)
      obtain rfl:=o_1 c
      refine Zm ?_
      exact ⟨H.s,I⟩
     intro o c
     refine u_2 ?_
     obtain rfl:=o_1 c
     refine Zm ?_
     exact ⟨H.s,I⟩
    rintro a w ⟨H,I⟩
    refine YA ?_
    obtain rfl:=o_1 n
    refine Zm ?_
    exact ⟨H.s,I⟩
   rintro a w ⟨H,I⟩
   refine t_1 (Zd H R λa H=>Zn H R R (jk _ _ (by decide)) λa H=>Zc H R λa H=>Zj (Zm ?_))
   exact ⟨_,ois j,H.s,I⟩
  intro x e
  refine o_4 (Zu (Zu (YQ ?_)))
  obtain rfl:=u _ (ois e)
  refine Zm ?_
  exact ⟨H.s,I⟩
 rintro a w ⟨H,I⟩
 refine Zz (Zb (Zd H R λa H=>YX H Za ld R s_4 t_3 λa H=>Zc H R λa H=>Ze ?_))
 obtain rfl:=o_1 t
 exact p_3 (kr1 H R R I.kept)
def US (h : Int) (b : UInt8 × UInt8 × Int) : Option (Fl (UInt8 × UInt8 × Int) UInt8) :=
 if decide (b.2.2 > 0) then (((if (Int.tmod b.2.2 2) == 1 then ((XN h b.1 b.2.1).bind λd=>some d) else (some b.1) : Option (UInt8)).bind λe=>(XN h b.2.1 b.2.1).bind λf=>some (e,f) : Option (UInt8 × UInt8)).bind λc=>some (Fl.nx (c.1,c.2,wr (Int.tdiv b.2.2 2)))) else (some (Fl.ex b.1))
def U1 (d : Int) (e : Int) (b : V256 × Int) : Option (Fl (V256 × Int) V256) :=
 if decide (b.2 < 256) then ((ZQ (US d) (1,Zv b.2,e)).bind λc=>(ZZ b.1 b.2).bind λf=>some (Fl.nx ((b.1.setIfInBounds (b.2).toNat c),wr (b.2 + 1)))) else (some (Fl.ex b.1))
def Tz (b : Int) (c : Int) : Option (V256) :=
 (ZQ (U1 b c) ((Vector.replicate 256 (0 : UInt8)),0)).bind λd=>some d
theorem ys (e : World) (o : Int) (q : Int) (r : V256) (J : Tz o q = some r) :
  Calls prog 262 [vI o,vI q].toArray e (Rt e (Value.agg (enc r).toArray)):=by
 refine ce func262 ?_
 intro a H
 have I:=M.start e
 unfold Tz at J
 refine Zb (Zw H I TS λj w a I H=>Ze (Zb (XT (parts:=[]) (vs:=[]) (cs:=enc xf) H Za ld R R TS R ty5 Xj λa H=>Zw H I TS λk w a I H=>Zk (seg:=enc xf) (cs':=enc xf) H I Za R R R TS (u_1 _) (zle flq) (s_1 _) (Zh flq) λw a I H=>Ze (s_2 (Zb (Zc H R λa H=>Ze ?_))))))
 obtain ⟨K,L,N⟩:=p_1 J
 refine Z7 (λa w=>Env 37 a [(4,ptr j 0),(5,ptr k 0)] ∧ M (Old e) e w [raw k (enc K),raw j (enc xf)]) ?_ ?_
 ·refine p_2 ?_
  refine ZR (λ(f : V256 × Int) a w=>Env 37 a [(0,vI o),(1,vI q),(4,ptr j 0),(5,ptr k 0),(6,vI f.2)] ∧ M (Old e) e w [raw k (enc f.1),raw j (enc xf)]) L ⟨H.s,I⟩ ?_
  rintro f a w ⟨H,I⟩ Y h t
  unfold U1 at h
  refine s_2 (Zb (Zd H R λa H=>Zn H R R R λa H=>Ze ?_))
  refine c_if H R h ?_ ?_
  ·intro u h
   refine u_2 (Zz (s_2 (p_2 (Zb (Zd H R λa H=>YX H Za ld R s_5 t_3 λa H=>Zc H R λa H=>Zc H R λa H=>Ze (s_2 (Zb (Zd H R λa H=>Zc H R λa H=>Ze ?_))))))))
   obtain ⟨i,y,l⟩:=p_1 h
   refine Z7 (λa w=>Env 37 a [(0,vI o),(1,vI q),(4,ptr j 0),(5,ptr k 0),(6,vI f.2),(7,vB i)] ∧ M (Old e) e w [raw k (enc f.1),raw j (enc xf)]) ?_ ?_
   ·refine p_2 ?_
    refine ZR (λ(b : UInt8 × UInt8 × Int) a w=>Env 37 a [(0,vI o),(1,vI q),(4,ptr j 0),(5,ptr k 0),(6,vI f.2),(7,vB b.1),(8,vB b.2.1),(9,vI b.2.2)] ∧ M (Old e) e w [raw k (enc f.1),raw j (enc xf)]) y ⟨H.s,I⟩ ?_
    rintro b a w ⟨H,I⟩ Z d z
    unfold US at d
    refine s_2 (Zb (Zd H R λa H=>Zn H R R R λa H=>Ze ?_))
    refine c_if H R d ?_ ?_
    ·intro A d
     refine u_2 (Zz ?_)
     obtain ⟨B,C,E⟩:=p_1 d
     refine ZJ (λa w=>Env 37 a [(0,vI o),(1,vI q),(4,ptr j 0),(5,ptr k 0),(6,vI f.2),(7,vB B.1),(8,vB B.2),(9,vI b.2.2)] ∧ M (Old e) e w [raw k (enc f.1),raw j (enc xf)]) ?_ ?_
     ·refine p_2 ?_
      obtain ⟨O,c,m⟩:=p_1 C
      refine ZJ (λa w=>Env 37 a [(0,vI o),(1,vI q),(4,ptr j 0),(5,ptr k 0),(6,vI f.2),(7,vB O),(8,vB b.2.1),(9,vI b.2.2)] ∧ M (Old e) e w [raw k (enc f.1),raw j (enc xf)]) ?_ ?_
      ·refine Zb (Zd H R λa H=>Zn H R R (KG _ _ (by decide)) λa H=>Zn H R R R λa H=>Ze ?_)
       refine c_if H R c ?_ ?_
       ·intro F c
        refine t_1 (Zd H R λa H=>Zd H R λa H=>Zd H R ?_); intro a H
        obtain ⟨T,U,c⟩:=p_1 c
        refine c_k H I R Zat (Tw _ o b.1 b.2.1 T U) ?_; intro w a I H
        refine Zc H R λa H=>Zj ?_
        obtain rfl:=o_1 c
        refine Zm ?_
        exact ⟨H.s,I⟩
       intro F c
       refine u_2 ?_
       obtain rfl:=o_1 c
       refine Zm ?_
       exact ⟨H.s,I⟩
      rintro a w ⟨H,I⟩
      refine t_1 (Zd H R λa H=>Zd H R λa H=>Zd H R ?_); intro a H
      obtain ⟨W,X,m⟩:=p_1 m
      refine c_k H I R Zat (Tw _ o b.2.1 b.2.1 W X) ?_; intro w a I H
      refine Zc H R λa H=>Zj (YA ?_)
      obtain rfl:=o_1 m
      refine Zm ?_
      exact ⟨H.s,I⟩
     rintro a w ⟨H,I⟩
     refine t_1 (Zd H R λa H=>Zn H R R (jk _ _ (by decide)) λa H=>Zc H R λa H=>Zj (Zm ?_))
     exact ⟨_,ois E,H.s,I⟩
    intro A d
    refine o_4 (Zu (Zu (YQ ?_)))
    obtain rfl:=z _ (ois d)
    refine Zm ?_
    exact ⟨H.s,I⟩
   rintro a w ⟨H,I⟩
   refine Zz (t_1 (Zd H R λa H=>Zd H R ?_)); intro a H
   obtain ⟨aa,n,l⟩:=bvx l
   refine ZO H R R o_6 ty5 n.1 λa H=>Zk (seg:=[vB i]) (cs':=enc (f.1.setIfInBounds (f.2).toNat i)) H I Za R R R ty5 R (Ya (v:=f.1) (x:=i) n.1) (s_1 (i : UInt8)) (ZP (v:=f.1) (x:=i) n.1) λw a I H=>Zj (YA (Zz (t_1 (Zd H R λa H=>Zn H R R R λa H=>Zc H R λa H=>Zj (Zm ?_)))))
   exact ⟨_,ois l,H.s,I⟩
  intro u h
  refine o_4 (Zu (Zu (YQ ?_)))
  obtain rfl:=t _ (ois h)
  refine Zm ?_
  exact ⟨H.s,I⟩
 rintro a w ⟨H,I⟩
 refine Zz (Zb (Zq H R TS R I.ra0 (u_1 _) ?_)); intro a H
 have I:=I.pl1
 refine Zk (seg:=enc K) (cs':=enc K) H I Za R R R TS (u_1 _) (zle flq) (s_1 _) (Zh flq) λw a I H=>Ze ?_
 obtain rfl:=o_1 N
 have G : Yb prog _ _ (.cell 4 56) _:=ZG H R TS R I.ra0 (u_1 _) R
 exact p_3 (ZV H R G ⟨_,R,R,I.kept⟩)
def WY (c : UInt8) (b : Int) : Option (UInt8) :=
 (Wo (IntKind.u64.wrap b)).bind λ_=>some (Zv (Jh (orI (jY (bI c) (IntKind.u64.wrap b)) (WG (jY (bI c) (IntKind.u64.wrap b)) 8)) 255))
theorem jw (b : World) (d : UInt8) (e : Int) (r : UInt8) (J : WY d e = some r) :
  Calls prog 312 [vB d,vI e].toArray b (Rt b (vB r)):=by
 refine ce func312 ?_
 intro a H
 have I:=M.start b
 unfold WY at J
 refine Zb (Zc H R λa H=>Ze (Zb (Zd H R λa H=>Bl H Za ld R t_3 s_4 λa H=>Zd H R λa H=>JN H Za ld R s_4 s_6 ?_))); intro a H
 obtain ⟨_,c,J⟩:=p_1 J
 have c:=Vt c
 refine BF H Za ld R R (Zb4 _ _ c) λa H=>Zc H R λa H=>Ze (Zb (Zd H R λa H=>Zd H R λa H=>BF H Za ld R R (Bf _ _ (by decide)) λa H=>Zn H R R R λa H=>Zn H R R R λa H=>YX H Za ld R s_4 t_3 λa H=>Zc H R λa H=>Ze ?_))
 obtain rfl:=o_1 J
 exact p_3 (kr1 H R R I.kept)
def YY (e : (List Int)) (f : V256 × Int) (b : UInt8 × Int) : Option (Fl (UInt8 × Int) UInt8) :=
 if decide (b.2 < (e.length : Int)) then ((idx e b.2).bind λc=>(WY (Zv f.2) c).bind λd=>some (Fl.nx (b.1 ^^^ d,wr (b.2 + 1)))) else (some (Fl.ex b.1))
def WR (d : (List Int)) (e : UInt8) (b : V256 × Int) : Option (Fl (V256 × Int) V256) :=
 if decide (b.2 < 256) then ((ZQ (YY d b) (e,0)).bind λc=>(ZZ b.1 b.2).bind λf=>some (Fl.nx ((b.1.setIfInBounds (b.2).toNat c),wr (b.2 + 1)))) else (some (Fl.ex b.1))
def Vl (b : (List Int)) (c : UInt8) : Option (V256) :=
 (ZQ (WR b c) ((Vector.replicate 256 (0 : UInt8)),0)).bind λd=>some d
theorem BB (h : World) (N : xB) (c : Value) (d : Ro h N [c]) (q : UInt8) (r : V256) (J : Vl N q = some r) :
  Calls prog 263 [c,vB q].toArray h (Rt h (Value.agg (enc r).toArray)):=by
 refine ce func263 ?_
 intro a H
 have I:=M.start h
 unfold Vl at J
 refine Zb (Zw H I TS λm w a I H=>Ze (Zb (XT (parts:=[]) (vs:=[]) (cs:=enc xf) H Za ld R R TS R ty5 Xj λa H=>Zw H I TS λn w a I H=>Zk (seg:=enc xf) (cs':=enc xf) H I Za R R R TS (u_1 _) (zle flq) (s_1 _) (Zh flq) λw a I H=>Ze (s_2 (Zb (Zc H R λa H=>Ze ?_))))))
 obtain ⟨F,G,K⟩:=p_1 J
 refine Z7 (λa w=>Env 34 a [(4,ptr m 0),(5,ptr n 0)] ∧ M (Old h) h w [raw n (enc F),raw m (enc xf)]) ?_ ?_
 ·refine p_2 ?_
  refine ZR (λ(i : V256 × Int) a w=>Env 34 a [(0,c),(1,vB q),(4,ptr m 0),(5,ptr n 0),(6,vI i.2)] ∧ M (Old h) h w [raw n (enc i.1),raw m (enc xf)]) G ⟨H.s,I⟩ ?_
  rintro i a w ⟨H,I⟩ O e t
  unfold WR at e
  refine s_2 (Zb (Zd H R λa H=>Zn H R R R λa H=>Ze ?_))
  refine c_if H R e ?_ ?_
  ·intro u e
   refine u_2 (Zz (s_2 (p_2 (Zb (Zd H R λa H=>Zc H R λa H=>Ze (s_2 (Zb (Zc H R λa H=>Ze ?_))))))))
   obtain ⟨f,y,j⟩:=p_1 e
   refine Z7 (λa w=>Env 34 a [(0,c),(1,vB q),(4,ptr m 0),(5,ptr n 0),(6,vI i.2),(7,vB f)] ∧ M (Old h) h w [raw n (enc i.1),raw m (enc xf)]) ?_ ?_
   ·refine p_2 ?_
    refine ZR (λ(l : UInt8 × Int) a w=>Env 34 a [(0,c),(1,vB q),(4,ptr m 0),(5,ptr n 0),(6,vI i.2),(7,vB l.1),(8,vI l.2)] ∧ M (Old h) h w [raw n (enc i.1),raw m (enc xf)]) y ⟨H.s,I⟩ ?_
    rintro l a w ⟨H,I⟩ T b z
    unfold YY at b
    refine s_2 (Zb (Zd H R λa H=>Zd H R λa H=>YE H R p_5 (I.rd d) λa H=>Zn H R R R λa H=>Ze ?_))
    refine c_if H R b ?_ ?_
    ·intro A b
     refine u_2 (Zz (s_2 (p_2 (t_1 (Zd H R λa H=>Zd H R λa H=>YX H Za ld R s_5 t_3 λa H=>Zd H R λa H=>Zd H R ?_))))); intro a H
     obtain ⟨B,o,b⟩:=bix b
     refine YG H R R p_5 ty2 (I.rd d) o.1 λa H=>ZB (v:=(vI B)) H R ty2 R (Xe (I.rd d) o.2) ?_; intro a H
     obtain ⟨C,L,b⟩:=p_1 b
     refine c_k H I R (cbm func312) (jw _ (Zv i.2) B C L) ?_; intro w a I H
     refine Zn H R R (Vs l.1 C) λa H=>Zc H R λa H=>Zj (YA (Zz (t_1 (Zd H R λa H=>Zn H R R R λa H=>Zc H R λa H=>Zj (Zm ?_)))))
     exact ⟨_,ois b,H.s,I⟩
    intro A b
    refine o_4 (Zu (Zu (YQ ?_)))
    obtain rfl:=z _ (ois b)
    refine Zm ?_
    exact ⟨H.s,I⟩
   rintro a w ⟨H,I⟩
   refine Zz (t_1 (Zd H R λa H=>Zd H R ?_)); intro a H
   obtain ⟨U,k,j⟩:=bvx j
   refine ZO H R R o_6 ty5 k.1 λa H=>Zk (seg:=[vB f]) (cs':=enc (i.1.setIfInBounds (i.2).toNat f)) H I Za R R R ty5 R (Ya (v:=i.1) (x:=f) k.1) (s_1 (f : UInt8)) (ZP (v:=i.1) (x:=f) k.1) λw a I H=>Zj (YA (Zz (t_1 (Zd H R λa H=>Zn H R R R λa H=>Zc H R λa H=>Zj (Zm ?_)))))
   exact ⟨_,ois j,H.s,I⟩
  intro u e
  refine o_4 (Zu (Zu (YQ ?_)))
  obtain rfl:=t _ (ois e)
  refine Zm ?_
  exact ⟨H.s,I⟩
 rintro a w ⟨H,I⟩
 refine Zz (Zb (Zq H R TS R I.ra0 (u_1 _) ?_)); intro a H
 have I:=I.pl1
 refine Zk (seg:=enc F) (cs':=enc F) H I Za R R R TS (u_1 _) (zle flq) (s_1 _) (Zh flq) λw a I H=>Ze ?_
 obtain rfl:=o_1 K
 have E : Yb prog _ _ (.cell 4 56) _:=ZG H R TS R I.ra0 (u_1 _) R
 exact p_3 (ZV H R E ⟨_,R,R,I.kept⟩)
def TG (e : V256) (f : V256) (b : V256 × Int) : Option (Fl (V256 × Int) V256) :=
 if decide (b.2 < 256) then ((ZZ e b.2).bind λc=>(ZZ f (bI c)).bind λd=>(ZZ b.1 b.2).bind λh=>some (Fl.nx ((b.1.setIfInBounds (b.2).toNat d),wr (b.2 + 1)))) else (some (Fl.ex b.1))
def T2 (b : V256) (c : V256) : Option (V256) :=
 (ZQ (TG b c) ((Vector.replicate 256 (0 : UInt8)),0)).bind λd=>some d
theorem jU (i : World) (q : V256) (t : V256) (r : V256) (J : T2 q t = some r) :
  Calls prog 261 [Value.agg (enc q).toArray,Value.agg (enc t).toArray].toArray i (Rt i (Value.agg (enc r).toArray)):=by
 refine ce func261 ?_
 intro a H
 have I:=M.start i
 unfold T2 at J
 refine Zb (Z2 (cs:=enc q) H I Za ld R R λB w a I H=>Z2 (cs:=enc t) H I Za ld R R λC w a I H=>Zw H I TS λu w a I H=>Ze (Zb (XT (parts:=[]) (vs:=[]) (cs:=enc xf) H Za ld R R TS R ty5 Xj λa H=>Zw H I TS λy w a I H=>Zk (seg:=enc xf) (cs':=enc xf) H I Za R R R TS (u_1 _) (zle flq) (s_1 _) (Zh flq) λw a I H=>Ze (s_2 (Zb (Zc H R λa H=>Ze ?_))))))
 obtain ⟨z,j,k⟩:=p_1 J
 refine Z7 (λa w=>Env 20 a [(4,ptr u 0),(5,ptr y 0)] ∧ M (Old i) i w [raw y (enc z),raw u (enc xf)]) ?_ ?_
 ·refine p_2 ?_
  refine ZR (λ(c : V256 × Int) a w=>Env 20 a [(2,ptr B 0),(3,ptr C 0),(4,ptr u 0),(5,ptr y 0),(6,vI c.2)] ∧ M (Old i) i w [raw y (enc c.1),raw u (enc xf),raw C (enc t),raw B (enc q)]) j ⟨H.s,I⟩ ?_
  rintro c a w ⟨H,I⟩ E b m
  unfold TG at b
  refine s_2 (Zb (Zd H R λa H=>Zn H R R R λa H=>Ze ?_))
  refine c_if H R b ?_ ?_
  ·intro n b
   refine u_2 (Zz (s_2 (p_2 (t_1 (Zd H R λa H=>Zd H R ?_))))); intro a H
   obtain ⟨A,f,b⟩:=bvx b
   refine ZO H R R o_6 ty5 f.1 λa H=>ZB (v:=(vB A)) H R ty5 R (At.vec I.ra3 f.2) ?_; intro a H
   obtain ⟨d,h,b⟩:=bvx b
   refine ZO H R R o_6 ty5 h.1 λa H=>ZB (v:=(vB d)) H R ty5 R (At.vec I.ra2 h.2) ?_; intro a H
   obtain ⟨F,e,b⟩:=bvx b
   refine ZO H R R o_6 ty5 e.1 λa H=>Zk (seg:=[vB d]) (cs':=enc (c.1.setIfInBounds (c.2).toNat d)) H I Za R R R ty5 R (Ya (v:=c.1) (x:=d) e.1) (s_1 (d : UInt8)) (ZP (v:=c.1) (x:=d) e.1) λw a I H=>Zj (YA (Zz (t_1 (Zd H R λa H=>Zn H R R R λa H=>Zc H R λa H=>Zj (Zm ?_)))))
   exact ⟨_,ois b,H.s,I⟩
  intro n b
  refine o_4 (Zu (Zu (YQ ?_)))
  obtain rfl:=m _ (ois b)
  refine Zm ?_
  have I:=M.fst (l:=[_,_]) I.pl1.pl1
  exact ⟨H.s,I⟩
 rintro a w ⟨H,I⟩
 refine Zz (Zb (Zq H R TS R I.ra0 (u_1 _) ?_)); intro a H
 have I:=I.pl1
 refine Zk (seg:=enc z) (cs':=enc z) H I Za R R R TS (u_1 _) (zle flq) (s_1 _) (Zh flq) λw a I H=>Ze ?_
 obtain rfl:=o_1 k
 have o : Yb prog _ _ (.cell 4 56) _:=ZG H R TS R I.ra0 (u_1 _) R
 exact p_3 (ZV H R o ⟨_,R,R,I.kept⟩)
def Qu (f : Int) (b : UInt8 × Int × UInt8) : Option (Fl (UInt8 × Int × UInt8) UInt8) :=
 if decide (b.2.1 > 0) then (((if (Int.tmod b.2.1 2) == 1 then ((XN f b.2.2 b.1).bind λc=>some c) else (some b.2.2) : Option (UInt8)).bind λd=>(XN f b.1 b.1).bind λe=>some (e,d) : Option (UInt8 × UInt8)).bind λh=>some (Fl.nx (h.1,wr (Int.tdiv b.2.1 2),h.2))) else (some (Fl.ex b.2.2))
def V8 (b : Int) (c : UInt8) (d : Int) : Option (UInt8) :=
 (ZQ (Qu b) (c,d,1)).bind λe=>some e
theorem z6 (d : World) (h : Int) (z : UInt8) (A : Int) (r : UInt8) (J : V8 h z A = some r) :
  Calls prog 313 [vI h,vB z,vI A].toArray d (Rt d (vB r)):=by
 refine ce func313 ?_
 intro a H
 have I:=M.start d
 unfold V8 at J
 refine Zb (Zc H R λa H=>Ze (Zb (Zc H R λa H=>Ze ?_)))
 obtain ⟨C,l,m⟩:=p_1 J
 refine ZJ (λa w=>Env 24 a [(7,vB C)] ∧ M (Old d) d w []) ?_ ?_
 ·refine p_2 ?_
  refine ZR (λ(e : UInt8 × Int × UInt8) a w=>Env 24 a [(0,vI h),(1,vB e.1),(2,vI e.2.1),(7,vB e.2.2)] ∧ M (Old d) d w []) l ⟨H.s,I⟩ ?_
  rintro e a w ⟨H,I⟩ E c n
  unfold Qu at c
  refine s_2 (Zb (Zd H R λa H=>Zn H R R R λa H=>Ze ?_))
  refine c_if H R c ?_ ?_
  ·intro o c
   refine u_2 (Zz ?_)
   obtain ⟨B,i,j⟩:=p_1 c
   refine ZJ (λa w=>Env 24 a [(0,vI h),(1,vB B.1),(2,vI e.2.1),(7,vB B.2)] ∧ M (Old d) d w []) ?_ ?_
   ·refine p_2 ?_
    obtain ⟨q,b,f⟩:=p_1 i
    refine ZJ (λa w=>Env 24 a [(0,vI h),(1,vB e.1),(2,vI e.2.1),(7,vB q)] ∧ M (Old d) d w []) ?_ ?_
    ·refine Zb (Zd H R λa H=>Zn H R R (KG _ _ (by decide)) λa H=>Zn H R R R λa H=>Ze ?_)
     refine c_if H R b ?_ ?_
     ·intro k b
      refine t_1 (Zd H R λa H=>Zd H R λa H=>Zd H R ?_); intro a H
      obtain ⟨t,u,b⟩:=p_1 b
      refine c_k H I R Zat (Tw _ h e.2.2 e.1 t u) ?_; intro w a I H
      refine Zc H R λa H=>Zj ?_
      obtain rfl:=o_1 b
      refine Zm ?_
      exact ⟨H.s,I⟩
     intro k b
     refine u_2 ?_
     obtain rfl:=o_1 b
     refine Zm ?_
     exact ⟨H.s,I⟩
    rintro a w ⟨H,I⟩
    refine t_1 (Zd H R λa H=>Zd H R λa H=>Zd H R ?_); intro a H
    obtain ⟨x,y,f⟩:=p_1 f
    refine c_k H I R Zat (Tw _ h e.1 e.1 x y) ?_; intro w a I H
    refine Zc H R λa H=>Zj (YA ?_)
    obtain rfl:=o_1 f
    refine Zm ?_
    exact ⟨H.s,I⟩
   rintro a w ⟨H,I⟩
   refine t_1 (Zd H R λa H=>Zn H R R (jk _ _ (by decide)) λa H=>Zc H R λa H=>Zj (Zm ?_))
   exact ⟨_,ois j,H.s,I⟩
  intro o c
  refine o_4 (Zu (Zu (YQ ?_)))
  obtain rfl:=n _ (ois c)
  refine Zm ?_
  exact ⟨H.s,I⟩
 rintro a w ⟨H,I⟩
 refine Zb (Zd H R λa H=>Zc H R λa H=>Ze ?_)
 obtain rfl:=o_1 m
 exact p_3 (kr1 H R R I.kept)
def Uz (b : Int) (c : UInt8) : Option (UInt8) :=
 (V8 b c 254).bind λd=>some d
theorem kb (b : World) (c : Int) (d : UInt8) (r : UInt8) (J : Uz c d = some r) :
  Calls prog 264 [vI c,vB d].toArray b (Rt b (vB r)):=by
 refine ce func264 ?_
 intro a H
 have I:=M.start b
 unfold Uz at J
 refine Zb (Zc H R λa H=>Ze (Zb (Zd H R λa H=>Zd H R ?_))); intro a H
 obtain ⟨e,f,J⟩:=p_1 J
 refine c_k H I R (cbm func313) (z6 _ c d 254 e f) ?_; intro w a I H
 refine Zc H R λa H=>Ze ?_
 obtain rfl:=o_1 J
 exact p_3 (kr1 H R R I.kept)
def Qt (c : (Vector (Vector UInt8 4) 4) × Int) (b : (Vector (Vector UInt8 4) 4) × Int) : Option (Fl ((Vector (Vector UInt8 4) 4) × Int) (Vector (Vector UInt8 4) 4)) :=
 if decide (b.2 < 4) then ((Uz 285 (Zv (zy c.2 (wr (4 + b.2))))).bind λe=>(ZZ b.1 c.2).bind λd=>(ZZ d b.2).bind λf=>some (Fl.nx ((b.1.setIfInBounds (c.2).toNat (d.setIfInBounds (b.2).toNat e)),wr (b.2 + 1)))) else (some (Fl.ex b.1))
def Qz (b : (Vector (Vector UInt8 4) 4) × Int) : Option (Fl ((Vector (Vector UInt8 4) 4) × Int) (Vector (Vector UInt8 4) 4)) :=
 if decide (b.2 < 4) then ((ZQ (Qt b) (b.1,0)).bind λc=>some (Fl.nx (c,wr (b.2 + 1)))) else (some (Fl.ex b.1))
def Qr (b : V16 × Int) : Option (Fl (V16 × Int) V16) :=
 if decide (b.2 < 16) then ((ZZ b.1 b.2).bind λc=>some (Fl.nx ((b.1.setIfInBounds (b.2).toNat (Zv (Int.tmod (wr ((wr (13 * b.2)) + 4)) 16))),wr (b.2 + 1)))) else (some (Fl.ex b.1))
def Ts (e : Int) : Option (GCipher) :=
 (Tz 285 254).bind λf=>(Vl ([0,1,4] : List Int) 90).bind λh=>(T2 f h).bind λb=>(ZQ (Qz) ((Vector.replicate 4 (Vector.replicate 4 (0 : UInt8))),0)).bind λc=>(ZQ (Qr) ((Vector.replicate 16 (0 : UInt8)),0)).bind λd=>some (⟨285,b,c,d,e⟩ : GCipher)
theorem yn (t : World) (f : Int) (r : GCipher) (J : Ts f = some r) :
  Calls prog 192 [vI f].toArray t (Rt t (Value.agg (enc r).toArray)):=by
 refine ce func192 ?_
 intro a H
 have I:=M.start t
 unfold Ts at J
 refine Zb (Zw H I Kq λB w a I H=>Ze (Zb (Zd H R λa H=>ZY (parts:=[(0,.const (vI 285)),(4,.tmp 7)]) (vs:=[(0,vI 285),(4,vI f)]) (cs:=cat [xz,enc xf,enc xe,enc xb,[vI f]]) H Za ld R R Kq pl62 (ZT (pre:=[]) (seg:=[vI 0]) (seg':=xz) (post:=[enc xf,enc xe,enc xb,[vI 0]]) R cl0 R R R (ZT (pre:=[xz,enc xf,enc xe,enc xb]) (seg:=[vI 0]) (seg':=[vI f]) (post:=[]) R ck R R R Yp)) λa H=>Zw H I Kq λC w a I H=>Zk (seg:=cat [xz,enc xf,enc xe,enc xb,[vI f]]) (cs':=cat [xz,enc xf,enc xe,enc xb,[vI f]]) H I Za R R R Kq cq (q_1 cq cq) (ZC (cc1 (s_1 (285 : Int)) (cc1 (s_1 _) (cc1 (s_1 _) (cc1 (s_1 _) (cc1 (s_1 (f : Int)) cc0)))))) (q_2 cq cq) λw a I H=>Ze (Zb ?_))))
 obtain ⟨r5,e6,J⟩:=p_1 J
 refine c_k H I R (cbm func262) (ys _ 285 254 r5 e6) ?_; intro w a I H
 refine ZL (xs:=[.const (vI 0),.const (vI 1),.const (vI 4)]) (l:=([0,1,4] : List Int)) (vs:=[vI 0,vI 1,vI 4]) H I Za ld R R p_5 ty2 R (by decide) R ?_; intro u7 w a I H
 obtain ⟨r9,ac,J⟩:=p_1 J
 refine c_k H I R (cbm func263) (BB _ ([0,1,4] : List Int) u7 (I.sl0) 90 r9 ac) ?_; intro w a I H
 obtain ⟨b,ad,J⟩:=p_1 J
 refine c_k H I R (cbm func261) (jU _ r5 r9 b ad) ?_; intro w a I H
 refine Zl H R (zH) ?_; intro a H
 have I:=I.pl1
 refine Zk (seg:=enc b) H I Za R R R TS (u_1 _) (YN (pre:=[xz]) ck flq) (s_1 _) (Z4 (pre:=[xz]) ck flq) λw a I H=>Ze (s_2 (Zb (Zc H R λa H=>Ze ?_)))
 obtain ⟨d,G,K⟩:=p_1 J
 refine Z7 (λa w=>Env 46 a [(2,ptr B 0),(3,ptr C 0)] ∧ M (Old t) t w [raw C (cat [xz,enc b,enc d,enc xb,[vI f]]),raw B xl]) ?_ ?_
 ·refine p_2 ?_
  have I:=M.fst (l:=[_,_]) I.pl2.pl1
  refine ZR (λ(k : xm × Int) a w=>Env 46 a [(2,ptr B 0),(3,ptr C 0),(4,vI k.2)] ∧ M (Old t) t w [raw C (cat [xz,enc b,enc k.1,enc xb,[vI f]]),raw B xl]) G ⟨H.s,I⟩ ?_
  rintro k a w ⟨H,I⟩ ak m L
  unfold Qz at m
  refine s_2 (Zb (Zd H R λa H=>Zn H R R R λa H=>Ze ?_))
  refine c_if H R m ?_ ?_
  ·intro N m
   refine u_2 (Zz (s_2 (p_2 (Zb (Zc H R λa H=>Ze ?_)))))
   obtain ⟨ae,O,T⟩:=p_1 m
   refine Z7 (λa w=>Env 46 a [(2,ptr B 0),(3,ptr C 0),(4,vI k.2)] ∧ M (Old t) t w [raw C (cat [xz,enc b,enc ae,enc xb,[vI f]]),raw B xl]) ?_ ?_
   ·refine p_2 ?_
    refine ZR (λ(h : xm × Int) a w=>Env 46 a [(2,ptr B 0),(3,ptr C 0),(4,vI k.2),(5,vI h.2)] ∧ M (Old t) t w [raw C (cat [xz,enc b,enc h.1,enc xb,[vI f]]),raw B xl]) O ⟨H.s,I⟩ ?_
    rintro h a w ⟨H,I⟩ al c U
    unfold Qt at c
    refine s_2 (Zb (Zd H R λa H=>Zn H R R R λa H=>Ze ?_))
    refine c_if H R c ?_ ?_
    ·intro W c
     refine u_2 (Zz (s_2 (p_2 ?_)))
     obtain ⟨o,af,c⟩:=p_1 c
     obtain ⟨F,y,c⟩:=bvx c
     obtain ⟨am,q,c⟩:=bvx c
     refine Z9 [22,23,24,25,26,27,28,29,30,31,32] Yt R R (by decide) R H I (q_m (λ_=>R) (q_m (λ_=>R) (q_m (λ_=>R) (q_m (λ_=>R) (qsP (v:=(vI (wr (4 + h.2)))) (λz=>Z8 z.E Za ld R R R (kr0 R)) (qsP (v:=(vI (zy k.2 (wr (4 + h.2))))) (λz=>Z8 z.E Za ld R R R (kr0 R)) (qsP (λz=>YX z.E Za ld R s_5 t_3 (kr0 R)) (qsP (λz=>Yd z.E Za ld R (cbm func264) (kb _ 285 (Zv (zy k.2 (wr (4 + h.2)))) o af) (kc R)) (qsP (λz=>Zg z.E Za ld R (jb) (kr0 R)) (qsP (λz=>ZW z.E Za ld R R u_4 Tp y.1 (kr0 R)) (qsP (λz=>ZW z.E Za ld R R t_5 ty5 q.1 (kr0 R)) qs0))))))))))) ?_
     ·intro a w u H I
      refine Zk (seg:=[vB o]) (cs':=cat [xz,enc b,enc (h.1.setIfInBounds (k.2).toNat (F.setIfInBounds (h.2).toNat o)),enc xb,[vI f]]) H I Za R R R ty5 R (JC (o':=(k.2).toNat * 4 + (0 + (h.2).toNat * 1)) (pre:=[xz,enc b]) (seg:=enc h.1) (post:=[enc xb,[vI f]]) ck (TC (o':=0 + (h.2).toNat * 1) y (Ya (v:=F) (x:=o) q.1) (by first | omega | (simp only [Flat.n] <;> omega))) (by first | omega | (simp only [Flat.n] <;> omega))) (s_1 (o : UInt8)) (Qj (o':=(k.2).toNat * 4 + (0 + (h.2).toNat * 1)) (pre:=[xz,enc b]) (seg:=enc h.1) (post:=[enc xb,[vI f]]) ck (TC (o':=0 + (h.2).toNat * 1) y (Ya (v:=F) (x:=o) q.1) (by first | omega | (simp only [Flat.n] <;> omega))) (Ul (o':=0 + (h.2).toNat * 1) y (Ya (v:=F) (x:=o) q.1) (ZP (v:=F) (x:=o) q.1) (by first | omega | (simp only [Flat.n] <;> omega))) (by first | omega | (simp only [Flat.n] <;> omega))) λw a I H=>Zj (YA (Zz (t_1 (Zd H R λa H=>Zn H R R R λa H=>Zc H R λa H=>Zj (Zm ?_)))))
      exact ⟨_,ois c,H.s,I⟩
    intro W c
    refine o_4 (Zu (Zu (YQ ?_)))
    obtain rfl:=U _ (ois c)
    refine Zm ?_
    exact ⟨H.s,I⟩
   rintro a w ⟨H,I⟩
   refine YA (Zz (t_1 (Zd H R λa H=>Zn H R R R λa H=>Zc H R λa H=>Zj (Zm ?_))))
   exact ⟨_,ois T,H.s,I⟩
  intro N m
  refine o_4 (Zu (Zu (YQ ?_)))
  obtain rfl:=L _ (ois m)
  refine Zm ?_
  exact ⟨H.s,I⟩
 rintro a w ⟨H,I⟩
 refine Zz (s_2 (Zb (Zc H R λa H=>Ze ?_)))
 obtain ⟨i,X,Y⟩:=p_1 K
 refine Z7 (λa w=>Env 46 a [(2,ptr B 0),(3,ptr C 0)] ∧ M (Old t) t w [raw C (cat [xz,enc b,enc d,enc i,[vI f]]),raw B xl]) ?_ ?_
 ·refine p_2 ?_
  refine ZR (λ(e : V16 × Int) a w=>Env 46 a [(2,ptr B 0),(3,ptr C 0),(6,vI e.2)] ∧ M (Old t) t w [raw C (cat [xz,enc b,enc d,enc e.1,[vI f]]),raw B xl]) X ⟨H.s,I⟩ ?_
  rintro e a w ⟨H,I⟩ an j Z
  unfold Qr at j
  refine s_2 (Zb (Zd H R λa H=>Zn H R R R λa H=>Ze ?_))
  refine c_if H R j ?_ ?_
  ·intro aa j
   refine u_2 (Zz (s_2 (p_2 (t_1 (Zd H R λa H=>Zd H R λa H=>Zn H R R R λa H=>Zn H R R R λa H=>Zn H R R (KG _ _ (by decide)) λa H=>YX H Za ld R s_5 t_3 λa H=>Zl H R (yW) ?_))))); intro a H
   obtain ⟨ao,A,j⟩:=bvx j
   refine ZO H R R p_7 ty5 A.1 λa H=>Zk (seg:=[vB (Zv (Int.tmod (wr ((wr (13 * e.2)) + 4)) 16))]) (cs':=cat [xz,enc b,enc d,enc (e.1.setIfInBounds (e.2).toNat (Zv (Int.tmod (wr ((wr (13 * e.2)) + 4)) 16))),[vI f]]) H I Za R R R ty5 R (JC (o':=0 + (e.2).toNat * 1) (pre:=[xz,enc b,enc d]) (seg:=enc e.1) (post:=[[vI f]]) ck (Ya (v:=e.1) (x:=Zv (Int.tmod (wr ((wr (13 * e.2)) + 4)) 16)) A.1) (by first | omega | (simp only [Flat.n] <;> omega))) (s_1 (Zv (Int.tmod (wr ((wr (13 * e.2)) + 4)) 16) : UInt8)) (Qj (o':=0 + (e.2).toNat * 1) (pre:=[xz,enc b,enc d]) (seg:=enc e.1) (post:=[[vI f]]) ck (Ya (v:=e.1) (x:=Zv (Int.tmod (wr ((wr (13 * e.2)) + 4)) 16)) A.1) (ZP (v:=e.1) (x:=Zv (Int.tmod (wr ((wr (13 * e.2)) + 4)) 16)) A.1) (by first | omega | (simp only [Flat.n] <;> omega))) λw a I H=>Zj (YA (Zz (t_1 (Zd H R λa H=>Zn H R R R λa H=>Zc H R λa H=>Zj (Zm ?_)))))
   exact ⟨_,ois j,H.s,I⟩
  intro aa j
  refine o_4 (Zu (Zu (YQ ?_)))
  obtain rfl:=Z _ (ois j)
  refine Zm ?_
  exact ⟨H.s,I⟩
 rintro a w ⟨H,I⟩
 refine Zz (Zb (Zq H R Kq R I.ra0 cq ?_)); intro a H
 have I:=I.pl1
 refine Zk (seg:=cat [[vI ((⟨285,b,d,i,f⟩ : GCipher).Field)],enc ((⟨285,b,d,i,f⟩ : GCipher).Box),enc ((⟨285,b,d,i,f⟩ : GCipher).Mix),enc ((⟨285,b,d,i,f⟩ : GCipher).Places),[vI ((⟨285,b,d,i,f⟩ : GCipher).Rounds)]]) (cs':=cat [[vI ((⟨285,b,d,i,f⟩ : GCipher).Field)],enc ((⟨285,b,d,i,f⟩ : GCipher).Box),enc ((⟨285,b,d,i,f⟩ : GCipher).Mix),enc ((⟨285,b,d,i,f⟩ : GCipher).Places),[vI ((⟨285,b,d,i,f⟩ : GCipher).Rounds)]]) H I Za R R R Kq cq (q_1 cq cq) (ZC (cc1 (s_1 ((⟨285,b,d,i,f⟩ : GCipher).Field : Int)) (cc1 (s_1 _) (cc1 (s_1 _) (cc1 (s_1 _) (cc1 (s_1 ((⟨285,b,d,i,f⟩ : GCipher).Rounds : Int)) cc0)))))) (q_2 cq cq) λw a I H=>Ze ?_
 obtain rfl:=o_1 Y
 have ab : Yb prog _ _ (.cell 2 62) _:=ZG H R Kq R I.ra0 cq R
 exact p_3 (ZV H R ab ⟨_,R,R,I.kept⟩)
def Wa : Option (GCipher) :=
 (Ts 4).bind λb=>some b
theorem QA (c : World)  (r : GCipher) (J : Wa  = some r) :
  Calls prog 243 [].toArray c (Rt c (Value.agg (enc r).toArray)):=by
 refine ce func243 ?_
 intro a H
 have I:=M.start c
 unfold Wa at J
 refine Zb (Zw H I Kq λf w a I H=>Ze (Zb ?_))
 obtain ⟨b,e,J⟩:=p_1 J
 refine c_k H I R (cbm func192) (yn _ 4 b e) ?_; intro w a I H
 refine Zk (seg:=cat [[vI b.Field],enc b.Box,enc b.Mix,enc b.Places,[vI b.Rounds]]) (cs':=cat [[vI b.Field],enc b.Box,enc b.Mix,enc b.Places,[vI b.Rounds]]) H I Za R R R Kq cq (q_1 cq cq) (ZC (cc1 (s_1 (b.Field : Int)) (cc1 (s_1 _) (cc1 (s_1 _) (cc1 (s_1 _) (cc1 (s_1 (b.Rounds : Int)) cc0)))))) (q_2 cq cq) λw a I H=>Ze ?_
 obtain rfl:=o_1 J
 have d : Yb prog _ _ (.cell 0 62) _:=ZG H R Kq R I.ra0 cq R
 exact p_3 (ZV H R d ⟨_,R,R,I.kept⟩)
def XI (b : (List UInt8)) : Option ((List UInt8)) :=
 (app 1 ([] : List UInt8) b).bind λc=>some (([] : List UInt8) ++ b)
theorem Qq (d : World) (e : xg) (b : Value) (c : Ro d e [b]) (r : xg) (J : XI e = some r) :
  Calls prog 96 [b].toArray d (e_r λv w'=>(∃ f : Value,v = f ∧ Fr d w' [osl NoB (r : List UInt8) f] ∧ Kept (Old d) d w')):=by
 refine ce func96 ?_
 intro a H
 have I:=M.start d
 unfold XI at J
 refine Zb (Zc H R λa H=>Ze (Zb (ZL (xs:=[]) (l:=xx) (vs:=[]) H I Za ld R R o_2 ty5 R (by decide) R λk w a I H=>Zd H R ?_))); intro a H
 obtain ⟨m,h,J⟩:=p_1 J
 have i:=(Z1 h).1
 refine Z3 H I Za ld R R (I.rd c) o_2 ty5 R (by decide) i λj w a I H=>Zc H R λa H=>Ze ?_
 obtain rfl:=o_1 J
 exact p_3 (ZV H R (ZD H R) ⟨_,R,j,R,I.outF (ZK Yo),I.kept⟩)
def Ke (b : (List UInt8)) : Option (Fl (List UInt8) (List UInt8)) :=
 if (Int.tmod (b.length : Int) 16) != 8 then ((app 1 b ([0] : List UInt8)).bind λc=>some (Fl.nx (b ++ ([0] : List UInt8)))) else (some (Fl.ex b))
def UY (c : (List UInt8)) (b : (List UInt8) × Int) : Option (Fl ((List UInt8) × Int) (List UInt8)) :=
 if decide (b.2 ≥ 0) then ((Wo (IntKind.u64.wrap (wr (8 * b.2)))).bind λ_=>(app 1 b.1 ([Zv (Jh (WG (c.length : Int) (IntKind.u64.wrap (wr (8 * b.2)))) 255)] : List UInt8)).bind λd=>some (Fl.nx ((b.1 ++ ([Zv (Jh (WG (c.length : Int) (IntKind.u64.wrap (wr (8 * b.2)))) 255)] : List UInt8)),wr (b.2 - 1)))) else (some (Fl.ex b.1))
def QN (d : (List UInt8)) : Option ((List UInt8)) :=
 (XI d).bind λe=>(app 1 e ([128] : List UInt8)).bind λf=>(ZQ (Ke) (e ++ ([128] : List UInt8))).bind λb=>(ZQ (UY d) (b,7)).bind λc=>some c
theorem kf (e : World) (o : xg) (d : Value) (f : Ro e o [d]) (r : xg) (J : QN o = some r) :
  Calls prog 258 [d].toArray e (e_r λv w'=>(∃ W : Value,v = W ∧ Fr e w' [osl NoB (r : List UInt8) W] ∧ Kept (Old e) e w')):=by
 refine ce func258 ?_
 intro a H
 have I:=M.start e
 unfold QN at J
 refine Zb (Zc H R λa H=>Ze (Zb (Zd H R ?_))); intro a H
 obtain ⟨X,Y,J⟩:=p_1 J
 refine Zp H R cb96 (Qq _ o d (I.rdo f) X Y) ?_
 rintro u3 w a ⟨_,rfl,hFr,hK⟩ H
 have I:=I.add hK hFr
 refine ZL (xs:=[.const (vB 128)]) (l:=([128] : List UInt8)) (vs:=[vB 128]) H I Za ld R R o_2 ty5 R (by decide) R ?_; intro u4 w a I H
 obtain ⟨l6,Z,J⟩:=p_1 J
 obtain ⟨E,rfl⟩:=Z1 Z
 have I:=I.pl1
 refine Z3 H I Za ld R R (I.sl1) o_2 ty5 R (by decide) E λu8 w a I H=>Zc H R λa H=>Ze ?_
 obtain ⟨F,q,t⟩:=p_1 J
 refine ZJ (λa w=>∃ i : Value,Env 32 a [(0,d),(3,i)] ∧ M (Old e) e w [osl NoB (F : List UInt8) i]) ?_ ?_
 ·refine p_2 ?_
  have I:=M.fst (l:=[_]) I
  refine ZR (λ(u : xg) a w=>∃ j : Value,Env 32 a [(0,d),(3,j)] ∧ M (Old e) e w [osl NoB (u : List UInt8) j]) q ⟨u8,H.s,I⟩ ?_
  rintro u a w ⟨j,H,I⟩ aa c x
  unfold Ke at c
  refine s_2 (Zb (Zd H R λa H=>YE H R o_2 (I.sl0) λa H=>Zn H R R (KG _ _ (by decide)) λa H=>Zn H R R R λa H=>Ze ?_))
  refine c_if H R c ?_ ?_
  ·intro y c
   refine u_2 (Zz (p_2 (t_1 (Zd H R λa H=>ZL (xs:=[.const (vB 0)]) (l:=([0] : List UInt8)) (vs:=[vB 0]) H I Za ld R R o_2 ty5 R (by decide) R ?_)))); intro ab w a I H
   obtain ⟨ac,G,c⟩:=p_1 c
   obtain ⟨K,rfl⟩:=Z1 G
   have I:=I.pl1
   refine Z3 H I Za ld R R (I.sl1) o_2 ty5 R (by decide) K λL w a I H=>Zc H R λa H=>Zj (YA (Zm ?_))
   have I:=M.fst (l:=[_]) I
   exact ⟨_,ois c,L,H.s,I⟩
  intro y c
  refine o_4 (Zu (Zu (YQ ?_)))
  obtain rfl:=x _ (ois c)
  refine Zm ?_
  exact ⟨j,H.s,I⟩
 rintro a w ⟨i,H,I⟩
 refine s_2 (Zb (Zc H R λa H=>Ze ?_))
 obtain ⟨N,z,A⟩:=p_1 t
 refine Z7 (λa w=>∃ k : Value,Env 32 a [(3,k)] ∧ M (Old e) e w [osl NoB (N : List UInt8) k]) ?_ ?_
 ·refine p_2 ?_
  refine ZR (λ(h : xg × Int) a w=>∃ m : Value,Env 32 a [(0,d),(3,m),(4,vI h.2)] ∧ M (Old e) e w [osl NoB (h.1 : List UInt8) m]) z ⟨i,H.s,I⟩ ?_
  rintro h a w ⟨m,H,I⟩ ad b B
  unfold UY at b
  refine s_2 (Zb (Zd H R λa H=>Zn H R R R λa H=>Ze ?_))
  refine c_if H R b ?_ ?_
  ·intro C b
   refine u_2 (Zz (s_2 (p_2 (t_1 (Zd H R λa H=>Zd H R λa H=>YE H R o_2 (I.rd f) λa H=>Zd H R λa H=>Zn H R R R λa H=>JN H Za ld R s_5 underlying151 ?_))))); intro a H
   obtain ⟨_,n,b⟩:=p_1 b
   have n:=Vt n
   refine BF H Za ld R R (Bf _ _ n) λa H=>Zn H R R R λa H=>YX H Za ld R s_5 t_3 λa H=>ZL (xs:=[.tmp 28]) (l:=([Zv (Jh (WG (o.length : Int) (IntKind.u64.wrap (wr (8 * h.2)))) 255)] : List UInt8)) (vs:=[vB (Zv (Jh (WG (o.length : Int) (IntKind.u64.wrap (wr (8 * h.2)))) 255))]) H I Za ld R R o_2 ty5 R (by decide) R ?_; intro ae w a I H
   obtain ⟨af,O,b⟩:=p_1 b
   obtain ⟨T,rfl⟩:=Z1 O
   have I:=I.pl1
   refine Z3 H I Za ld R R (I.sl1) o_2 ty5 R (by decide) T λU w a I H=>Zc H R λa H=>Zj (YA (Zz (t_1 (Zd H R λa H=>Zn H R R R λa H=>Zc H R λa H=>Zj (Zm ?_)))))
   have I:=M.fst (l:=[_]) I
   exact ⟨_,ois b,U,H.s,I⟩
  intro C b
  refine o_4 (Zu (Zu (YQ ?_)))
  obtain rfl:=B _ (ois b)
  refine Zm ?_
  exact ⟨m,H.s,I⟩
 rintro a w ⟨k,H,I⟩
 refine Zz (Zb (Zd H R λa H=>Zc H R λa H=>Ze ?_))
 obtain rfl:=o_1 A
 exact p_3 (ZV H R (ZD H R) ⟨_,R,k,R,I.outF (ZK Yo),I.kept⟩)
def W3 (d : (List UInt8)) (e : (List V16) × Int) (b : V16 × Int) : Option (Fl (V16 × Int) V16) :=
 if decide (b.2 < 16) then ((idx d (wr (e.2 + b.2))).bind λc=>(ZZ b.1 b.2).bind λf=>some (Fl.nx ((b.1.setIfInBounds (b.2).toNat c),wr (b.2 + 1)))) else (some (Fl.ex b.1))
def W7 (d : (List UInt8)) (b : (List V16) × Int) : Option (Fl ((List V16) × Int) (List V16)) :=
 if decide ((wr (b.2 + 16)) ≤ (d.length : Int)) then ((ZQ (W3 d b) ((Vector.replicate 16 (0 : UInt8)),0)).bind λc=>(app 16 b.1 ([c] : List V16)).bind λe=>some (Fl.nx ((b.1 ++ ([c] : List V16)),wr (b.2 + 16)))) else (some (Fl.ex b.1))
def UV (b : (List UInt8)) : Option ((List V16)) :=
 (ZQ (W7 b) (([] : List V16),0)).bind λc=>some c
theorem zI (h : World) (N : xg) (d : Value) (e : Ro h N [d]) (r : xv) (J : UV N = some r) :
  Calls prog 257 [d].toArray h (e_r λv w'=>(∃ O : Value,v = O ∧ Fr h w' [osl NoB (r : List V16) O] ∧ Kept (Old h) h w')):=by
 refine ce func257 ?_
 intro a H
 have I:=M.start h
 unfold UV at J
 refine Zb (Zc H R λa H=>Ze (Zb (ZL (xs:=[]) (l:=([] : List V16)) (vs:=[]) H I Za ld R R s_3 ZE R (by decide) R λT w a I H=>Zc H R λa H=>Ze (s_2 (Zb (Zc H R λa H=>Ze ?_))))))
 obtain ⟨U,E,F⟩:=p_1 J
 refine Z7 (λa w=>∃ C : Value,Env 33 a [(3,C)] ∧ M (Old h) h w [osl NoB (U : List V16) C]) ?_ ?_
 ·refine p_2 ?_
  refine ZR (λ(q : xv × Int) a w=>∃ n : Value,Env 33 a [(0,d),(3,n),(4,vI q.2)] ∧ M (Old h) h w [osl NoB (q.1 : List V16) n]) E ⟨T,H.s,I⟩ ?_
  rintro q a w ⟨n,H,I⟩ W c u
  unfold W7 at c
  refine s_2 (Zb (Zd H R λa H=>Zn H R R R λa H=>Zd H R λa H=>YE H R o_2 (I.rd e) λa H=>Zn H R R R λa H=>Ze ?_))
  refine c_if H R c ?_ ?_
  ·intro y c
   refine u_2 (Zz (s_2 (p_2 (Zb (XT (parts:=[]) (vs:=[]) (cs:=enc xb) H Za ld R R ZE R ty5 Xj λa H=>Zw H I ZE λm w a I H=>Zk (seg:=enc xb) (cs':=enc xb) H I Za R R R ZE (u_1 _) (zle flq) (s_1 _) (Zh flq) λw a I H=>Ze (s_2 (Zb (Zc H R λa H=>Ze ?_))))))))
   obtain ⟨t,z,j⟩:=p_1 c
   refine Z7 (λa w=>Env 33 a [(0,d),(3,n),(4,vI q.2),(5,ptr m 0)] ∧ M (Old h) h w [raw m (enc t),osl NoB (q.1 : List V16) n]) ?_ ?_
   ·refine p_2 ?_
    refine ZR (λ(f : V16 × Int) a w=>Env 33 a [(0,d),(3,n),(4,vI q.2),(5,ptr m 0),(6,vI f.2)] ∧ M (Old h) h w [raw m (enc f.1),osl NoB (q.1 : List V16) n]) z ⟨H.s,I⟩ ?_
    rintro f a w ⟨H,I⟩ X b A
    unfold W3 at b
    refine s_2 (Zb (Zd H R λa H=>Zn H R R R λa H=>Ze ?_))
    refine c_if H R b ?_ ?_
    ·intro B b
     refine u_2 (Zz (s_2 (p_2 (t_1 (Zd H R λa H=>Zd H R λa H=>Zd H R λa H=>Zd H R λa H=>Zn H R R R ?_))))); intro a H
     obtain ⟨i,o,b⟩:=bix b
     refine YG H R R o_2 ty5 (I.rd e) o.1 λa H=>ZB (v:=(vB i)) H R ty5 R (Xe (I.rd e) o.2) ?_; intro a H
     obtain ⟨Y,k,b⟩:=bvx b
     refine ZO H R R u_3 ty5 k.1 λa H=>Zk (seg:=[vB i]) (cs':=enc (f.1.setIfInBounds (f.2).toNat i)) H I Za R R R ty5 R (Ya (v:=f.1) (x:=i) k.1) (s_1 (i : UInt8)) (ZP (v:=f.1) (x:=i) k.1) λw a I H=>Zj (YA (Zz (t_1 (Zd H R λa H=>Zn H R R R λa H=>Zc H R λa H=>Zj (Zm ?_)))))
     exact ⟨_,ois b,H.s,I⟩
    intro B b
    refine o_4 (Zu (Zu (YQ ?_)))
    obtain rfl:=A _ (ois b)
    refine Zm ?_
    exact ⟨H.s,I⟩
   rintro a w ⟨H,I⟩
   refine Zz (t_1 (Zd H R λa H=>Zq H R ZE R I.ra0 (u_1 _) λa H=>ZL (xs:=[.tmp 29]) (l:=([t] : List V16)) (vs:=[Value.agg (enc t).toArray]) H I Za ld R R s_3 ZE R (by decide) R ?_)); intro u32 w a I H
   obtain ⟨Z,G,j⟩:=p_1 j
   obtain ⟨K,rfl⟩:=Z1 G
   have I:=I.pl2
   refine Z3 H I Za ld R R (I.sl1) s_3 ZE R (by decide) K λL w a I H=>Zc H R λa H=>Zj (YA (Zz (t_1 (Zd H R λa H=>Zn H R R R λa H=>Zc H R λa H=>Zj (Zm ?_)))))
   have I:=M.fst (l:=[_]) I
   exact ⟨_,ois j,L,H.s,I⟩
  intro y c
  refine o_4 (Zu (Zu (YQ ?_)))
  obtain rfl:=u _ (ois c)
  refine Zm ?_
  exact ⟨n,H.s,I⟩
 rintro a w ⟨C,H,I⟩
 refine Zz (Zb (Zd H R λa H=>Zc H R λa H=>Ze ?_))
 obtain rfl:=o_1 F
 exact p_3 (ZV H R (ZD H R) ⟨_,R,C,R,I.outF (ZK Yo),I.kept⟩)
def VK (b : V32 × Int) : Option (Fl (V32 × Int) V32) :=
 if decide (b.2 < 32) then ((ZZ b.1 b.2).bind λc=>some (Fl.nx ((b.1.setIfInBounds (b.2).toNat (Zv (Int.tmod (wr (17 * b.2)) 256))),wr (b.2 + 1)))) else (some (Fl.ex b.1))
def Tq : Option (V32) :=
 (ZQ (VK) ((Vector.replicate 32 (0 : UInt8)),0)).bind λb=>some b
theorem ye (e : World)  (r : V32) (J : Tq  = some r) :
  Calls prog 259 [].toArray e (Rt e (Value.agg (enc r).toArray)):=by
 refine ce func259 ?_
 intro a H
 have I:=M.start e
 unfold Tq at J
 refine Zb (Zw H I Yq λj w a I H=>Ze (Zb (XT (parts:=[]) (vs:=[]) (cs:=enc xc) H Za ld R R Yq R ty5 Xj λa H=>Zw H I Yq λk w a I H=>Zk (seg:=enc xc) (cs':=enc xc) H I Za R R R Yq (u_1 _) (zle flq) (s_1 _) (Zh flq) λw a I H=>Ze (s_2 (Zb (Zc H R λa H=>Ze ?_))))))
 obtain ⟨l,m,n⟩:=p_1 J
 refine Z7 (λa w=>Env 15 a [(0,ptr j 0),(1,ptr k 0)] ∧ M (Old e) e w [raw k (enc l),raw j xr]) ?_ ?_
 ·refine p_2 ?_
  refine ZR (λ(c : V32 × Int) a w=>Env 15 a [(0,ptr j 0),(1,ptr k 0),(2,vI c.2)] ∧ M (Old e) e w [raw k (enc c.1),raw j xr]) m ⟨H.s,I⟩ ?_
  rintro c a w ⟨H,I⟩ o b f
  unfold VK at b
  refine s_2 (Zb (Zd H R λa H=>Zn H R R R λa H=>Ze ?_))
  refine c_if H R b ?_ ?_
  ·intro h b
   refine u_2 (Zz (s_2 (p_2 (t_1 (Zd H R λa H=>Zd H R λa H=>Zn H R R R λa H=>Zn H R R (KG _ _ (by decide)) λa H=>YX H Za ld R s_5 t_3 ?_))))); intro a H
   obtain ⟨q,d,b⟩:=bvx b
   refine ZO H R R t_4 ty5 d.1 λa H=>Zk (seg:=[vB (Zv (Int.tmod (wr (17 * c.2)) 256))]) (cs':=enc (c.1.setIfInBounds (c.2).toNat (Zv (Int.tmod (wr (17 * c.2)) 256)))) H I Za R R R ty5 R (Ya (v:=c.1) (x:=Zv (Int.tmod (wr (17 * c.2)) 256)) d.1) (s_1 (Zv (Int.tmod (wr (17 * c.2)) 256) : UInt8)) (ZP (v:=c.1) (x:=Zv (Int.tmod (wr (17 * c.2)) 256)) d.1) λw a I H=>Zj (YA (Zz (t_1 (Zd H R λa H=>Zn H R R R λa H=>Zc H R λa H=>Zj (Zm ?_)))))
   exact ⟨_,ois b,H.s,I⟩
  intro h b
  refine o_4 (Zu (Zu (YQ ?_)))
  obtain rfl:=f _ (ois b)
  refine Zm ?_
  exact ⟨H.s,I⟩
 rintro a w ⟨H,I⟩
 refine Zz (Zb (Zq H R Yq R I.ra0 (u_1 _) ?_)); intro a H
 have I:=I.pl1
 refine Zk (seg:=enc l) (cs':=enc l) H I Za R R R Yq (u_1 _) (zle flq) (s_1 _) (Zh flq) λw a I H=>Ze ?_
 obtain rfl:=o_1 n
 have i : Yb prog _ _ (.cell 0 32) _:=ZG H R Yq R I.ra0 (u_1 _) R
 exact p_3 (ZV H R i ⟨_,R,R,I.kept⟩)
def Va (e : V32) (b : V16 × V16 × Int) : Option (Fl (V16 × V16 × Int) (V16 × V16)) :=
 if decide (b.2.2 < 16) then ((ZZ e b.2.2).bind λc=>(ZZ b.2.1 b.2.2).bind λf=>(ZZ e (wr (16 + b.2.2))).bind λd=>(ZZ b.1 b.2.2).bind λh=>some (Fl.nx ((b.1.setIfInBounds (b.2.2).toNat d),b.2.1.setIfInBounds (b.2.2).toNat c,wr (b.2.2 + 1)))) else (some (Fl.ex (b.1,b.2.1)))
def Tc (d : V32) : Option (V16 × V16) :=
 (ZQ (Va d) ((Vector.replicate 16 (0 : UInt8)),Vector.replicate 16 (0 : UInt8),0)).bind λb=>(some (b.2,b.1) : Option (V16 × V16)).bind λc=>some (c.1,c.2)
theorem zb (n : World) (Z : V32) (r : V16 × V16) (J : Tc Z = some r) :
  Calls prog 310 [Value.agg (enc Z).toArray].toArray n (Rt n (Value.tuple [Value.agg (enc r.1).toArray,Value.agg (enc r.2).toArray].toArray)):=by
 refine ce func310 ?_
 intro a H
 have I:=M.start n
 unfold Tc at J
 refine Zb (Z2 (cs:=enc Z) H I Za ld R R λb1 w a I H=>Zw H I ZE λo w a I H=>Zw H I ZE λA w a I H=>Ze (Zb (XT (parts:=[]) (vs:=[]) (cs:=enc xb) H Za ld R R ZE R ty5 Xj λa H=>XT (parts:=[]) (vs:=[]) (cs:=enc xb) H Za ld R R ZE R ty5 Xj λa H=>Zw H I ZE λB w a I H=>Zw H I ZE ?_))); intro C w a I H
 have I:=I.pl1
 refine Zk (seg:=enc xb) (cs':=enc xb) H I Za R R R ZE (u_1 _) (zle flq) (s_1 _) (Zh flq) ?_; intro w a I H
 have I:=I.pl1
 refine Zk (seg:=enc xb) (cs':=enc xb) H I Za R R R ZE (u_1 _) (zle flq) (s_1 _) (Zh flq) λw a I H=>Ze (s_2 (Zb (Zc H R λa H=>Ze ?_)))
 obtain ⟨e,G,K⟩:=p_1 J
 refine Z7 (λa w=>Env 26 a [(2,ptr o 0),(3,ptr A 0),(4,ptr B 0),(5,ptr C 0)] ∧ M (Old n) n w [raw C (enc e.1),raw B (enc e.2),raw A xp,raw o xp]) ?_ ?_
 ·refine p_2 ?_
  refine ZR (λ(d : V16 × V16 × Int) a w=>Env 26 a [(1,ptr b1 0),(2,ptr o 0),(3,ptr A 0),(4,ptr B 0),(5,ptr C 0),(6,vI d.2.2)] ∧ M (Old n) n w [raw C (enc d.1),raw B (enc d.2.1),raw A xp,raw o xp,raw b1 (enc Z)]) G ⟨H.s,I⟩ ?_
  rintro d a w ⟨H,I⟩ ab b L
  unfold Va at b
  refine s_2 (Zb (Zd H R λa H=>Zn H R R R λa H=>Ze ?_))
  refine c_if H R b ?_ ?_
  ·intro N b
   refine u_2 (Zz (s_2 (p_2 (Zb (Zd H R λa H=>Zd H R ?_))))); intro a H
   obtain ⟨f,q,b⟩:=bvx b
   refine ZO H R R t_4 ty5 q.1 λa H=>ZB (v:=(vB f)) H R ty5 R (At.vec I.ra4 q.2) ?_; intro a H
   obtain ⟨ac,i,b⟩:=bvx b
   refine ZO H R R u_3 ty5 i.1 ?_; intro a H
   have I:=I.pl1
   refine Zk (seg:=[vB f]) (cs':=enc (d.2.1.setIfInBounds (d.2.2).toNat f)) H I Za R R R ty5 R (Ya (v:=d.2.1) (x:=f) i.1) (s_1 (f : UInt8)) (ZP (v:=d.2.1) (x:=f) i.1) λw a I H=>Ze (t_1 (Zd H R λa H=>Zd H R λa H=>Zn H R R R ?_)); intro a H
   obtain ⟨h,t,b⟩:=bvx b
   refine ZO H R R t_4 ty5 t.1 λa H=>ZB (v:=(vB h)) H R ty5 R (At.vec I.ra4 t.2) ?_; intro a H
   obtain ⟨ad,m,b⟩:=bvx b
   refine ZO H R R u_3 ty5 m.1 ?_; intro a H
   have I:=I.pl1
   refine Zk (seg:=[vB h]) (cs':=enc (d.1.setIfInBounds (d.2.2).toNat h)) H I Za R R R ty5 R (Ya (v:=d.1) (x:=h) m.1) (s_1 (h : UInt8)) (ZP (v:=d.1) (x:=h) m.1) λw a I H=>Zj (YA (Zz (t_1 (Zd H R λa H=>Zn H R R R λa H=>Zc H R λa H=>Zj (Zm ?_)))))
   exact ⟨_,ois b,H.s,I⟩
  intro N b
  refine o_4 (Zu (Zu (YQ ?_)))
  obtain rfl:=L _ (ois b)
  refine Zm ?_
  have I:=M.fst (l:=[_,_,_,_]) I.pl3.pl3.pl3.pl3
  exact ⟨H.s,I⟩
 rintro a w ⟨H,I⟩
 refine Zz ?_
 obtain ⟨O,T,U⟩:=p_1 K
 refine ZJ (λa w=>Env 26 a [(2,ptr o 0),(3,ptr A 0)] ∧ M (Old n) n w [raw A (enc O.2),raw o (enc O.1)]) ?_ ?_
 ·have I:=I.pl3
  refine Yl (its:=[raw C (enc e.1),raw B (enc e.2),raw A xp]) (mk:=([mkT 2 (raw o xp) (raw o (enc e.2))] : Mk)) [24,25,28] Yt R R (by decide) R H (λu=>M.qT (M.q0 I.drew u)) (qsP (v:=(Value.agg (enc e.2).toArray)) ?_ (qsP (λz=>Zx z.E Za ld R ZE R (z.M.ra0) (u_1 _) (kr0 R)) (qsM (pr:=λv=>True) ?_ qs0))) ?_
  ·intro a w y D z
   have H:=z.E
   have hD : D 0 = false:=z.F
   have I:=z.M.togA (pre:=[_,_,_]) (WH (j:=2) (k:=0) z.c R R R hD)
   exact Zq H R ZE R I.ra1 (u_1 _) λa H=>⟨o_5 _ _,_,R,H⟩
  ·intro a w y D z
   have H:=z.E
   have hD : D 2 = false:=z.F
   have I:=(z.M.togA (pre:=[_,_,_]) hD).pl3
   exact Zk (seg:=enc e.2) (cs':=enc e.2) H I Za R R R ZE (u_1 _) (zle flq) (s_1 _) (Zh flq) λw a I H=>⟨undef,_,R,Env.dummy H (by decide),M.qTog (mk1:=[]) (mk2:=[]) I R,trivial⟩
  intro a w y D H I hG W
  have d2:=W 2 (by decide)
  have I:=(I.togB (pre:=[_,_,_]) d2).pl2
  refine Zk (seg:=enc e.1) (cs':=enc e.1) H I Za R R R ZE (u_1 _) (zle flq) (s_1 _) (Zh flq) λw a I H=>Zj ?_
  obtain rfl:=o_1 T
  refine Zm ?_
  have I:=M.fst (l:=[_,_]) I.pl3.pl1
  exact ⟨H.s,I⟩
 rintro a w ⟨H,I⟩
 obtain rfl:=o_1 U
 have X : Yb prog _ _ (.cell 2 53) _:=ZG H R ZE R I.ra1 (u_1 _) R
 have Y : Yb prog _ _ (.cell 3 53) _:=ZG H R ZE R I.ra0 (u_1 _) R
 exact p_3 (Xf H R X Y ⟨_,R,R,I.kept⟩)
def UZ (e : V16) (b : V16 × Int) : Option (Fl (V16 × Int) V16) :=
 if decide (b.2 < 16) then ((ZZ b.1 b.2).bind λc=>(ZZ e b.2).bind λd=>(ZZ b.1 b.2).bind λf=>some (Fl.nx ((b.1.setIfInBounds (b.2).toNat (c ^^^ d)),wr (b.2 + 1)))) else (some (Fl.ex b.1))
def Wf (b : V16) (c : V16) : Option (V16) :=
 (ZQ (UZ c) (b,0)).bind λd=>some d
theorem TQ (j : World) (y : V16) (o : V16) (r : V16) (J : Wf y o = some r) :
  Calls prog 210 [Value.agg (enc y).toArray,Value.agg (enc o).toArray].toArray j (Rt j (Value.agg (enc r).toArray)):=by
 refine ce func210 ?_
 intro a H
 have I:=M.start j
 unfold Wf at J
 refine Zb (Z2 (cs:=enc y) H I Za ld R R λq w a I H=>Z2 (cs:=enc o) H I Za ld R R λF w a I H=>Zw H I ZE λt w a I H=>Ze (s_2 (Zb (Zc H R λa H=>Ze ?_))))
 obtain ⟨A,B,C⟩:=p_1 J
 refine Z7 (λa w=>Env 20 a [(2,ptr q 0),(4,ptr t 0)] ∧ M (Old j) j w [raw t xp,raw q (enc A)]) ?_ ?_
 ·refine p_2 ?_
  refine ZR (λ(e : V16 × Int) a w=>Env 20 a [(2,ptr q 0),(3,ptr F 0),(4,ptr t 0),(5,vI e.2)] ∧ M (Old j) j w [raw t xp,raw F (enc o),raw q (enc e.1)]) B ⟨H.s,I⟩ ?_
  rintro e a w ⟨H,I⟩ G b k
  unfold UZ at b
  refine s_2 (Zb (Zd H R λa H=>Zn H R R R λa H=>Ze ?_))
  refine c_if H R b ?_ ?_
  ·intro m b
   refine u_2 (Zz (s_2 (p_2 ?_)))
   obtain ⟨c,h,b⟩:=bvx b
   obtain ⟨d,i,b⟩:=bvx b
   obtain ⟨K,f,b⟩:=bvx b
   refine Z9 [10,11,12,13,14,15,16,17,18] Yt R R (by decide) R H I (q_m (λ_=>R) (q_m (λ_=>R) (qsP (λz=>ZW z.E Za ld R R u_3 ty5 h.1 (kr0 R)) (qsP (λz=>Zy (v:=(vB c)) z.E Za ld R ty5 R (At.vec (z.M.ra2) h.2) (kr0 R)) (q_m (λ_=>R) (qsP (λz=>ZW z.E Za ld R R u_3 ty5 i.1 (kr0 R)) (qsP (λz=>Zy (v:=(vB d)) z.E Za ld R ty5 R (At.vec (z.M.ra1) i.2) (kr0 R)) (qsP (v:=(vB (c ^^^ d))) (λz=>Z8 z.E Za ld R R (Vs c d) (kr0 R)) (qsP (λz=>ZW z.E Za ld R R u_3 ty5 f.1 (kr0 R)) qs0))))))))) ?_
   ·intro a w u H I
    have I:=I.pl2
    refine Zk (seg:=[vB (c ^^^ d)]) (cs':=enc (e.1.setIfInBounds (e.2).toNat (c ^^^ d))) H I Za R R R ty5 R (Ya (v:=e.1) (x:=c ^^^ d) f.1) (s_1 (c ^^^ d : UInt8)) (ZP (v:=e.1) (x:=c ^^^ d) f.1) λw a I H=>Zj (YA (Zz (t_1 (Zd H R λa H=>Zn H R R R λa H=>Zc H R λa H=>Zj (Zm ?_)))))
    have I:=I.pl2.pl2
    exact ⟨_,ois b,H.s,I⟩
  intro m b
  refine o_4 (Zu (Zu (YQ ?_)))
  obtain rfl:=k _ (ois b)
  refine Zm ?_
  have I:=M.fst (l:=[_,_]) I.pl2.pl1
  exact ⟨H.s,I⟩
 rintro a w ⟨H,I⟩
 refine Zz (Zb (Zq H R ZE R I.ra1 (u_1 _) λa H=>Zk (seg:=enc A) (cs':=enc A) H I Za R R R ZE (u_1 _) (zle flq) (s_1 _) (Zh flq) λw a I H=>Ze ?_))
 obtain rfl:=o_1 C
 have n : Yb prog _ _ (.cell 4 53) _:=ZG H R ZE R I.ra0 (u_1 _) R
 exact p_3 (ZV H R n ⟨_,R,R,I.kept⟩)
def V3 (i : V256) (j : Int) (b : V16 × Int) : Option (Fl (V16 × Int) V16) :=
 if decide (b.2 < 16) then (((ZZ b.1 (Int.tmod (wr (b.2 + 15)) 16)).bind λc=>(if b.2 == 0 then (some (c ^^^ (Zv j))) else (some c) : Option (UInt8)).bind λd=>(ZZ b.1 b.2).bind λe=>(ZZ i (bI d)).bind λf=>(ZZ b.1 b.2).bind λk=>some (b.1.setIfInBounds (b.2).toNat (e ^^^ f)) : Option (V16)).bind λh=>some (Fl.nx (h,wr (b.2 + 1)))) else (some (Fl.ex b.1))
def Qf (b : V256) (c : V16) (d : Int) : Option (V16) :=
 (ZQ (V3 b d) (c,0)).bind λe=>some e
theorem je (i : World) (y : V256) (O : V16) (A : Int) (r : V16) (J : Qf y O A = some r) :
  Calls prog 322 [Value.agg (enc y).toArray,Value.agg (enc O).toArray,vI A].toArray i (Rt i (Value.agg (enc r).toArray)):=by
 refine ce func322 ?_
 intro a H
 have I:=M.start i
 unfold Qf at J
 refine Zb (Z2 (cs:=enc y) H I Za ld R R λB w a I H=>Z2 (cs:=enc O) H I Za ld R R λm w a I H=>Zw H I ZE λn w a I H=>Ze (s_2 (Zb (Zc H R λa H=>Ze ?_))))
 obtain ⟨T,U,W⟩:=p_1 J
 refine Z7 (λa w=>Env 34 a [(4,ptr m 0),(6,ptr n 0)] ∧ M (Old i) i w [raw n xp,raw m (enc T)]) ?_ ?_
 ·refine p_2 ?_
  refine ZR (λ(c : V16 × Int) a w=>Env 34 a [(2,vI A),(3,ptr B 0),(4,ptr m 0),(6,ptr n 0),(7,vI c.2)] ∧ M (Old i) i w [raw n xp,raw m (enc c.1),raw B (enc y)]) U ⟨H.s,I⟩ ?_
  rintro c a w ⟨H,I⟩ Z d C
  unfold V3 at d
  refine s_2 (Zb (Zd H R λa H=>Zn H R R R λa H=>Ze ?_))
  refine c_if H R d ?_ ?_
  ·intro F d
   refine u_2 (Zz ?_)
   obtain ⟨X,j,G⟩:=p_1 d
   refine ZJ (λa w=>Env 34 a [(2,vI A),(3,ptr B 0),(4,ptr m 0),(6,ptr n 0),(7,vI c.2)] ∧ M (Old i) i w [raw n xp,raw m (enc X),raw B (enc y)]) ?_ ?_
   ·refine p_2 (Zb (Zd H R λa H=>Zn H R R R λa H=>Zn H R R (KG _ _ (by decide)) ?_)); intro a H
    obtain ⟨K,o,j⟩:=bvx j
    refine ZO H R R u_3 ty5 o.1 λa H=>ZB (v:=(vB K)) H R ty5 R (At.vec I.ra1 o.2) λa H=>Zc H R λa H=>Ze ?_
    obtain ⟨Y,e,b⟩:=p_1 j
    refine ZJ (λa w=>Env 34 a [(2,vI A),(3,ptr B 0),(4,ptr m 0),(6,ptr n 0),(7,vI c.2),(8,vB Y)] ∧ M (Old i) i w [raw n xp,raw m (enc c.1),raw B (enc y)]) ?_ ?_
    ·refine Zb (Zd H R λa H=>Zn H R R R λa H=>Ze ?_)
     refine c_if H R e ?_ ?_
     ·intro L e
      refine t_1 (Zd H R λa H=>Zd H R λa H=>YX H Za ld R s_4 t_3 λa H=>Zn H R R (Vs K (Zv A)) λa H=>Zc H R λa H=>Zj ?_)
      obtain rfl:=o_1 e
      refine Zm ?_
      exact ⟨H.s,I⟩
     intro L e
     refine u_2 ?_
     obtain rfl:=o_1 e
     refine Zm ?_
     exact ⟨H.s,I⟩
    rintro a w ⟨H,I⟩
    obtain ⟨f,q,b⟩:=bvx b
    obtain ⟨h,t,b⟩:=bvx b
    obtain ⟨aa,k,b⟩:=bvx b
    refine Z9 [24,25,26,27,28,29,30,31,32] Yt R R (by decide) R H I (q_m (λ_=>R) (q_m (λ_=>R) (qsP (λz=>ZW z.E Za ld R R u_3 ty5 q.1 (kr0 R)) (qsP (λz=>Zy (v:=(vB f)) z.E Za ld R ty5 R (At.vec (z.M.ra1) q.2) (kr0 R)) (q_m (λ_=>R) (qsP (λz=>ZW z.E Za ld R R o_6 ty5 t.1 (kr0 R)) (qsP (λz=>Zy (v:=(vB h)) z.E Za ld R ty5 R (At.vec (z.M.ra2) t.2) (kr0 R)) (qsP (v:=(vB (f ^^^ h))) (λz=>Z8 z.E Za ld R R (Vs f h) (kr0 R)) (qsP (λz=>ZW z.E Za ld R R u_3 ty5 k.1 (kr0 R)) qs0))))))))) ?_
    ·intro a w u H I
     have I:=I.pl1
     refine Zk (seg:=[vB (f ^^^ h)]) (cs':=enc (c.1.setIfInBounds (c.2).toNat (f ^^^ h))) H I Za R R R ty5 R (Ya (v:=c.1) (x:=f ^^^ h) k.1) (s_1 (f ^^^ h : UInt8)) (ZP (v:=c.1) (x:=f ^^^ h) k.1) λw a I H=>Zj (YA ?_)
     obtain rfl:=o_1 b
     refine Zm ?_
     have I:=I.pl2.pl1.pl2
     exact ⟨H.s,I⟩
   rintro a w ⟨H,I⟩
   refine t_1 (Zd H R λa H=>Zn H R R R λa H=>Zc H R λa H=>Zj (Zm ?_))
   exact ⟨_,ois G,H.s,I⟩
  intro F d
  refine o_4 (Zu (Zu (YQ ?_)))
  obtain rfl:=C _ (ois d)
  refine Zm ?_
  have I:=M.fst (l:=[_,_]) I.pl1.pl1
  exact ⟨H.s,I⟩
 rintro a w ⟨H,I⟩
 refine Zz (Zb (Zq H R ZE R I.ra1 (u_1 _) λa H=>Zk (seg:=enc T) (cs':=enc T) H I Za R R R ZE (u_1 _) (zle flq) (s_1 _) (Zh flq) λw a I H=>Ze ?_))
 obtain rfl:=o_1 W
 have N : Yb prog _ _ (.cell 6 53) _:=ZG H R ZE R I.ra0 (u_1 _) R
 exact p_3 (ZV H R N ⟨_,R,R,I.kept⟩)
def V2 (d : GCipher) (e : Int) (b : V16 × (List V16) × Int) : Option (Fl (V16 × (List V16) × Int) (List V16)) :=
 if decide (b.2.2 ≤ e) then ((Qf d.Box b.1 b.2.2).bind λc=>(app 16 b.2.1 ([c] : List V16)).bind λf=>some (Fl.nx (c,b.2.1 ++ ([c] : List V16),wr (b.2.2 + 1)))) else (some (Fl.ex b.2.1))
def T8 (c : GCipher) (b : V16) (d : Int) : Option ((List V16)) :=
 (ZQ (V2 c d) (b,([b] : List V16),1)).bind λe=>some e
theorem y6 (f : World) (c : GCipher) (j : V16) (n : Int) (r : xv) (J : T8 c j n = some r) :
  Calls prog 280 [Value.agg (enc c).toArray,Value.agg (enc j).toArray,vI n].toArray f (e_r λv w'=>(∃ z : Value,v = z ∧ Fr f w' [osl NoB (r : List V16) z] ∧ Kept (Old f) f w')):=by
 refine ce func280 ?_
 intro a H
 have I:=M.start f
 unfold T8 at J
 refine Zb (Z2 (cs:=cat [[vI c.Field],enc c.Box,enc c.Mix,enc c.Places,[vI c.Rounds]]) H I Za ld R R λA w a I H=>Z2 (cs:=enc j) H I Za ld R R λB w a I H=>Zc H R λa H=>Ze (Zb (Zq H R ZE R I.ra0 (u_1 _) λa H=>ZL (xs:=[.tmp 9]) (l:=([j] : List V16)) (vs:=[Value.agg (enc j).toArray]) H I Za ld R R s_3 ZE R (by decide) R λC w a I H=>Zc H R λa H=>Ze (s_2 (Zb (Zc H R λa H=>Ze ?_))))))
 obtain ⟨E,o,q⟩:=p_1 J
 refine Z7 (λa w=>∃ h : Value,Env 26 a [(7,h)] ∧ M (Old f) f w [osl NoB (E : List V16) h]) ?_ ?_
 ·refine p_2 ?_
  have I:=I.pl2.pl2
  refine ZR (λ(d : V16 × xv × Int) a w=>∃ i : Value,Env 26 a [(2,vI n),(3,ptr A 0),(4,ptr B 0),(7,i),(8,vI d.2.2)] ∧ M (Old f) f w [raw B (enc d.1),raw A (cat [[vI c.Field],enc c.Box,enc c.Mix,enc c.Places,[vI c.Rounds]]),osl NoB (d.2.1 : List V16) i]) o ⟨C,H.s,I⟩ ?_
  rintro d a w ⟨i,H,I⟩ F b k
  unfold V2 at b
  refine s_2 (Zb (Zd H R λa H=>Zd H R λa H=>Zn H R R R λa H=>Ze ?_))
  refine c_if H R b ?_ ?_
  ·intro m b
   refine u_2 (Zz (s_2 (p_2 (Zb (Zl H R (zH) λa H=>Zq H R TS R (at_1 I.ra1) (u_1 _) λa H=>Zq H R ZE R I.ra0 (u_1 _) λa H=>Zd H R ?_))))); intro a H
   obtain ⟨e,t,b⟩:=p_1 b
   refine c_k H I R (cbm func322) (je _ c.Box d.1 d.2.2 e t) ?_; intro w a I H
   refine Zk (seg:=enc e) (cs':=enc e) H I Za R R R ZE (u_1 _) (zle flq) (s_1 _) (Zh flq) λw a I H=>Ze (t_1 (Zd H R λa H=>Zq H R ZE R I.ra0 (u_1 _) λa H=>ZL (xs:=[.tmp 22]) (l:=([e] : List V16)) (vs:=[Value.agg (enc e).toArray]) H I Za ld R R s_3 ZE R (by decide) R ?_)); intro G w a I H
   obtain ⟨K,u,b⟩:=p_1 b
   obtain ⟨x,rfl⟩:=Z1 u
   have I:=I.pl3
   refine Z3 H I Za ld R R (I.sl1) s_3 ZE R (by decide) x λy w a I H=>Zc H R λa H=>Zj (YA (Zz (t_1 (Zd H R λa H=>Zn H R R R λa H=>Zc H R λa H=>Zj (Zm ?_)))))
   have I:=M.fst (l:=[_,_,_]) I.pl3.pl3
   exact ⟨_,ois b,y,H.s,I⟩
  intro m b
  refine o_4 (Zu (Zu (YQ ?_)))
  obtain rfl:=k _ (ois b)
  refine Zm ?_
  have I:=M.fst (l:=[_]) I.pl2
  exact ⟨i,H.s,I⟩
 rintro a w ⟨h,H,I⟩
 refine Zz (Zb (Zd H R λa H=>Zc H R λa H=>Ze ?_))
 obtain rfl:=o_1 q
 exact p_3 (ZV H R (ZD H R) ⟨_,R,h,R,I.outF (ZK Yo),I.kept⟩)
def VB (e : V256) (b : V16 × Int) : Option (Fl (V16 × Int) V16) :=
 if decide (b.2 < 16) then ((ZZ b.1 b.2).bind λc=>(ZZ e (bI c)).bind λd=>(ZZ b.1 b.2).bind λf=>some (Fl.nx ((b.1.setIfInBounds (b.2).toNat d),wr (b.2 + 1)))) else (some (Fl.ex b.1))
def TE (b : V256) (c : V16) : Option (V16) :=
 (ZQ (VB b) (c,0)).bind λd=>some d
theorem yi (i : World) (n : V256) (t : V16) (r : V16) (J : TE n t = some r) :
  Calls prog 282 [Value.agg (enc n).toArray,Value.agg (enc t).toArray].toArray i (Rt i (Value.agg (enc r).toArray)):=by
 refine ce func282 ?_
 intro a H
 have I:=M.start i
 unfold TE at J
 refine Zb (Z2 (cs:=enc n) H I Za ld R R λB w a I H=>Z2 (cs:=enc t) H I Za ld R R λo w a I H=>Zw H I ZE λq w a I H=>Ze (s_2 (Zb (Zc H R λa H=>Ze ?_))))
 obtain ⟨u,y,z⟩:=p_1 J
 refine Z7 (λa w=>Env 18 a [(3,ptr o 0),(4,ptr q 0)] ∧ M (Old i) i w [raw q xp,raw o (enc u)]) ?_ ?_
 ·refine p_2 ?_
  refine ZR (λ(c : V16 × Int) a w=>Env 18 a [(2,ptr B 0),(3,ptr o 0),(4,ptr q 0),(5,vI c.2)] ∧ M (Old i) i w [raw q xp,raw o (enc c.1),raw B (enc n)]) y ⟨H.s,I⟩ ?_
  rintro c a w ⟨H,I⟩ C b j
  unfold VB at b
  refine s_2 (Zb (Zd H R λa H=>Zn H R R R λa H=>Ze ?_))
  refine c_if H R b ?_ ?_
  ·intro k b
   refine u_2 (Zz (s_2 (p_2 (t_1 (Zd H R λa H=>Zd H R ?_))))); intro a H
   obtain ⟨A,f,b⟩:=bvx b
   refine ZO H R R u_3 ty5 f.1 λa H=>ZB (v:=(vB A)) H R ty5 R (At.vec I.ra1 f.2) ?_; intro a H
   obtain ⟨d,h,b⟩:=bvx b
   refine ZO H R R o_6 ty5 h.1 λa H=>ZB (v:=(vB d)) H R ty5 R (At.vec I.ra2 h.2) ?_; intro a H
   obtain ⟨E,e,b⟩:=bvx b
   refine ZO H R R u_3 ty5 e.1 ?_; intro a H
   have I:=I.pl1
   refine Zk (seg:=[vB d]) (cs':=enc (c.1.setIfInBounds (c.2).toNat d)) H I Za R R R ty5 R (Ya (v:=c.1) (x:=d) e.1) (s_1 (d : UInt8)) (ZP (v:=c.1) (x:=d) e.1) λw a I H=>Zj (YA (Zz (t_1 (Zd H R λa H=>Zn H R R R λa H=>Zc H R λa H=>Zj (Zm ?_)))))
   have I:=I.pl2.pl1.pl2
   exact ⟨_,ois b,H.s,I⟩
  intro k b
  refine o_4 (Zu (Zu (YQ ?_)))
  obtain rfl:=j _ (ois b)
  refine Zm ?_
  have I:=M.fst (l:=[_,_]) I.pl1.pl1
  exact ⟨H.s,I⟩
 rintro a w ⟨H,I⟩
 refine Zz (Zb (Zq H R ZE R I.ra1 (u_1 _) λa H=>Zk (seg:=enc u) (cs':=enc u) H I Za R R R ZE (u_1 _) (zle flq) (s_1 _) (Zh flq) λw a I H=>Ze ?_))
 obtain rfl:=o_1 z
 have m : Yb prog _ _ (.cell 4 53) _:=ZG H R ZE R I.ra0 (u_1 _) R
 exact p_3 (ZV H R m ⟨_,R,R,I.kept⟩)
def Ue (e : V16) (f : V16) (b : V16 × Int) : Option (Fl (V16 × Int) V16) :=
 if decide (b.2 < 16) then ((ZZ e b.2).bind λc=>(ZZ f (bI c)).bind λd=>(ZZ b.1 b.2).bind λh=>some (Fl.nx ((b.1.setIfInBounds (b.2).toNat d),wr (b.2 + 1)))) else (some (Fl.ex b.1))
def Qm (b : V16) (c : V16) : Option (V16) :=
 (ZQ (Ue b c) ((Vector.replicate 16 (0 : UInt8)),0)).bind λd=>some d
theorem jR (i : World) (q : V16) (t : V16) (r : V16) (J : Qm q t = some r) :
  Calls prog 281 [Value.agg (enc q).toArray,Value.agg (enc t).toArray].toArray i (Rt i (Value.agg (enc r).toArray)):=by
 refine ce func281 ?_
 intro a H
 have I:=M.start i
 unfold Qm at J
 refine Zb (Z2 (cs:=enc q) H I Za ld R R λB w a I H=>Z2 (cs:=enc t) H I Za ld R R λC w a I H=>Zw H I ZE λu w a I H=>Ze (Zb (XT (parts:=[]) (vs:=[]) (cs:=enc xb) H Za ld R R ZE R ty5 Xj λa H=>Zw H I ZE λy w a I H=>Zk (seg:=enc xb) (cs':=enc xb) H I Za R R R ZE (u_1 _) (zle flq) (s_1 _) (Zh flq) λw a I H=>Ze (s_2 (Zb (Zc H R λa H=>Ze ?_))))))
 obtain ⟨z,j,k⟩:=p_1 J
 refine Z7 (λa w=>Env 20 a [(4,ptr u 0),(5,ptr y 0)] ∧ M (Old i) i w [raw y (enc z),raw u xp]) ?_ ?_
 ·refine p_2 ?_
  refine ZR (λ(c : V16 × Int) a w=>Env 20 a [(2,ptr B 0),(3,ptr C 0),(4,ptr u 0),(5,ptr y 0),(6,vI c.2)] ∧ M (Old i) i w [raw y (enc c.1),raw u xp,raw C (enc t),raw B (enc q)]) j ⟨H.s,I⟩ ?_
  rintro c a w ⟨H,I⟩ E b m
  unfold Ue at b
  refine s_2 (Zb (Zd H R λa H=>Zn H R R R λa H=>Ze ?_))
  refine c_if H R b ?_ ?_
  ·intro n b
   refine u_2 (Zz (s_2 (p_2 (t_1 (Zd H R λa H=>Zd H R ?_))))); intro a H
   obtain ⟨A,f,b⟩:=bvx b
   refine ZO H R R p_7 ty5 f.1 λa H=>ZB (v:=(vB A)) H R ty5 R (At.vec I.ra3 f.2) ?_; intro a H
   obtain ⟨d,h,b⟩:=bvx b
   refine ZO H R R u_3 ty5 h.1 λa H=>ZB (v:=(vB d)) H R ty5 R (At.vec I.ra2 h.2) ?_; intro a H
   obtain ⟨F,e,b⟩:=bvx b
   refine ZO H R R u_3 ty5 e.1 λa H=>Zk (seg:=[vB d]) (cs':=enc (c.1.setIfInBounds (c.2).toNat d)) H I Za R R R ty5 R (Ya (v:=c.1) (x:=d) e.1) (s_1 (d : UInt8)) (ZP (v:=c.1) (x:=d) e.1) λw a I H=>Zj (YA (Zz (t_1 (Zd H R λa H=>Zn H R R R λa H=>Zc H R λa H=>Zj (Zm ?_)))))
   exact ⟨_,ois b,H.s,I⟩
  intro n b
  refine o_4 (Zu (Zu (YQ ?_)))
  obtain rfl:=m _ (ois b)
  refine Zm ?_
  have I:=M.fst (l:=[_,_]) I.pl1.pl1
  exact ⟨H.s,I⟩
 rintro a w ⟨H,I⟩
 refine Zz (Zb (Zq H R ZE R I.ra0 (u_1 _) ?_)); intro a H
 have I:=I.pl1
 refine Zk (seg:=enc z) (cs':=enc z) H I Za R R R ZE (u_1 _) (zle flq) (s_1 _) (Zh flq) λw a I H=>Ze ?_
 obtain rfl:=o_1 k
 have o : Yb prog _ _ (.cell 4 53) _:=ZG H R ZE R I.ra0 (u_1 _) R
 exact p_3 (ZV H R o ⟨_,R,R,I.kept⟩)
def WS (k : Int) (l : (Vector (Vector UInt8 4) 4)) (m : V16) (c : V16 × Int) (d : V16 × Int) (b : V16 × Int) : Option (Fl (V16 × Int) V16) :=
 if decide (b.2 < 4) then ((ZZ b.1 (wr ((wr (4 * c.2)) + d.2))).bind λe=>(ZZ l d.2).bind λf=>(ZZ f b.2).bind λh=>(ZZ m (wr ((wr (4 * c.2)) + b.2))).bind λi=>(XN k h i).bind λj=>(ZZ b.1 (wr ((wr (4 * c.2)) + d.2))).bind λn=>some (Fl.nx ((b.1.setIfInBounds ((wr ((wr (4 * c.2)) + d.2))).toNat (e ^^^ j)),wr (b.2 + 1)))) else (some (Fl.ex b.1))
def U8 (e : Int) (f : (Vector (Vector UInt8 4) 4)) (h : V16) (c : V16 × Int) (b : V16 × Int) : Option (Fl (V16 × Int) V16) :=
 if decide (b.2 < 4) then ((ZQ (WS e f h c b) (b.1,0)).bind λd=>some (Fl.nx (d,wr (b.2 + 1)))) else (some (Fl.ex b.1))
def Td (d : Int) (e : (Vector (Vector UInt8 4) 4)) (f : V16) (b : V16 × Int) : Option (Fl (V16 × Int) V16) :=
 if decide (b.2 < 4) then ((ZQ (U8 d e f b) (b.1,0)).bind λc=>some (Fl.nx (c,wr (b.2 + 1)))) else (some (Fl.ex b.1))
def QO (b : Int) (c : (Vector (Vector UInt8 4) 4)) (d : V16) : Option (V16) :=
 (ZQ (Td b c d) ((Vector.replicate 16 (0 : UInt8)),0)).bind λe=>some e
theorem km (j : World) (y : Int) (A : xm) (B : V16) (r : V16) (J : QO y A B = some r) :
  Calls prog 283 [vI y,Value.agg (enc A).toArray,Value.agg (enc B).toArray].toArray j (Rt j (Value.agg (enc r).toArray)):=by
 refine ce func283 ?_
 intro a H
 have I:=M.start j
 unfold QO at J
 refine Zb (Z2 (cs:=enc A) H I Za ld R R λq w a I H=>Z2 (cs:=enc B) H I Za ld R R λt w a I H=>Zw H I ZE λm w a I H=>Ze (Zb (XT (parts:=[]) (vs:=[]) (cs:=enc xb) H Za ld R R ZE R ty5 Xj λa H=>Zw H I ZE λn w a I H=>Zk (seg:=enc xb) (cs':=enc xb) H I Za R R R ZE (u_1 _) (zle flq) (s_1 _) (Zh flq) λw a I H=>Ze (s_2 (Zb (Zc H R λa H=>Ze ?_))))))
 obtain ⟨j9,L,N⟩:=p_1 J
 refine Z7 (λa w=>Env 50 a [(6,ptr m 0),(7,ptr n 0)] ∧ M (Old j) j w [raw n (enc j9),raw m xp]) ?_ ?_
 ·refine p_2 ?_
  refine ZR (λ(c : V16 × Int) a w=>Env 50 a [(0,vI y),(4,ptr q 0),(5,ptr t 0),(6,ptr m 0),(7,ptr n 0),(8,vI c.2)] ∧ M (Old j) j w [raw n (enc c.1),raw m xp,raw t (enc B),raw q (enc A)]) L ⟨H.s,I⟩ ?_
  rintro c a w ⟨H,I⟩ ak d O
  unfold Td at d
  refine s_2 (Zb (Zd H R λa H=>Zn H R R R λa H=>Ze ?_))
  refine c_if H R d ?_ ?_
  ·intro T d
   refine u_2 (Zz (s_2 (p_2 (Zb (Zc H R λa H=>Ze ?_)))))
   obtain ⟨ah,U,W⟩:=p_1 d
   refine Z7 (λa w=>Env 50 a [(0,vI y),(4,ptr q 0),(5,ptr t 0),(6,ptr m 0),(7,ptr n 0),(8,vI c.2)] ∧ M (Old j) j w [raw n (enc ah),raw m xp,raw t (enc B),raw q (enc A)]) ?_ ?_
   ·refine p_2 ?_
    refine ZR (λ(f : V16 × Int) a w=>Env 50 a [(0,vI y),(4,ptr q 0),(5,ptr t 0),(6,ptr m 0),(7,ptr n 0),(8,vI c.2),(9,vI f.2)] ∧ M (Old j) j w [raw n (enc f.1),raw m xp,raw t (enc B),raw q (enc A)]) U ⟨H.s,I⟩ ?_
    rintro f a w ⟨H,I⟩ al e X
    unfold U8 at e
    refine s_2 (Zb (Zd H R λa H=>Zn H R R R λa H=>Ze ?_))
    refine c_if H R e ?_ ?_
    ·intro Y e
     refine u_2 (Zz (s_2 (p_2 (Zb (Zc H R λa H=>Ze ?_)))))
     obtain ⟨ai,Z,aa⟩:=p_1 e
     refine Z7 (λa w=>Env 50 a [(0,vI y),(4,ptr q 0),(5,ptr t 0),(6,ptr m 0),(7,ptr n 0),(8,vI c.2),(9,vI f.2)] ∧ M (Old j) j w [raw n (enc ai),raw m xp,raw t (enc B),raw q (enc A)]) ?_ ?_
     ·refine p_2 ?_
      refine ZR (λ(k : V16 × Int) a w=>Env 50 a [(0,vI y),(4,ptr q 0),(5,ptr t 0),(6,ptr m 0),(7,ptr n 0),(8,vI c.2),(9,vI f.2),(10,vI k.2)] ∧ M (Old j) j w [raw n (enc k.1),raw m xp,raw t (enc B),raw q (enc A)]) Z ⟨H.s,I⟩ ?_
      rintro k a w ⟨H,I⟩ am b ab
      unfold WS at b
      refine s_2 (Zb (Zd H R λa H=>Zn H R R R λa H=>Ze ?_))
      refine c_if H R b ?_ ?_
      ·intro ac b
       refine u_2 (Zz (s_2 (p_2 ?_)))
       obtain ⟨h,C,b⟩:=bvx b
       obtain ⟨an,F,b⟩:=bvx b
       obtain ⟨ad,G,b⟩:=bvx b
       obtain ⟨ae,K,b⟩:=bvx b
       obtain ⟨i,aj,b⟩:=p_1 b
       obtain ⟨ao,o,b⟩:=bvx b
       refine Z9 [24,25,26,27,28,29,30,31,32,33,34,35,36,37,38,39,40,41,42,43,44,45,46,47,48] Yt R R (by decide) R H I (q_m (λ_=>R) (qsP (v:=(vI (wr (4 * c.2)))) (λz=>Z8 z.E Za ld R R R (kr0 R)) (q_m (λ_=>R) (qsP (v:=(vI (wr ((wr (4 * c.2)) + f.2)))) (λz=>Z8 z.E Za ld R R R (kr0 R)) (q_m (λ_=>R) (qsP (v:=(vI (wr (4 * c.2)))) (λz=>Z8 z.E Za ld R R R (kr0 R)) (q_m (λ_=>R) (qsP (v:=(vI (wr ((wr (4 * c.2)) + f.2)))) (λz=>Z8 z.E Za ld R R R (kr0 R)) (qsP (λz=>ZW z.E Za ld R R u_3 ty5 C.1 (kr0 R)) (qsP (λz=>Zy (v:=(vB h)) z.E Za ld R ty5 R (At.vec (z.M.ra0) C.2) (kr0 R)) (q_m (λ_=>R) (q_m (λ_=>R) (q_m (λ_=>R) (qsP (λz=>ZW z.E Za ld R R u_4 Tp F.1 (kr0 R)) (qsP (λz=>ZW z.E Za ld R R t_5 ty5 G.1 (kr0 R)) (qsP (λz=>Zy (v:=(vB ad)) z.E Za ld R ty5 R (At.vec (At.vec (z.M.ra3) F.2) G.2) (kr0 R)) (q_m (λ_=>R) (qsP (v:=(vI (wr (4 * c.2)))) (λz=>Z8 z.E Za ld R R R (kr0 R)) (q_m (λ_=>R) (qsP (v:=(vI (wr ((wr (4 * c.2)) + k.2)))) (λz=>Z8 z.E Za ld R R R (kr0 R)) (qsP (λz=>ZW z.E Za ld R R u_3 ty5 K.1 (kr0 R)) (qsP (λz=>Zy (v:=(vB ae)) z.E Za ld R ty5 R (At.vec (z.M.ra2) K.2) (kr0 R)) (qsP (λz=>Yd z.E Za ld R Zat (Tw _ y ad ae i aj) (kc R)) (qsP (v:=(vB (h ^^^ i))) (λz=>Z8 z.E Za ld R R (Vs h i) (kr0 R)) (qsP (λz=>ZW z.E Za ld R R u_3 ty5 o.1 (kr0 R)) qs0))))))))))))))))))))))))) ?_
       ·intro a w u H I
        refine Zk (seg:=[vB (h ^^^ i)]) (cs':=enc (k.1.setIfInBounds ((wr ((wr (4 * c.2)) + f.2))).toNat (h ^^^ i))) H I Za R R R ty5 R (Ya (v:=k.1) (x:=h ^^^ i) o.1) (s_1 (h ^^^ i : UInt8)) (ZP (v:=k.1) (x:=h ^^^ i) o.1) λw a I H=>Zj (YA (Zz (t_1 (Zd H R λa H=>Zn H R R R λa H=>Zc H R λa H=>Zj (Zm ?_)))))
        exact ⟨_,ois b,H.s,I⟩
      intro ac b
      refine o_4 (Zu (Zu (YQ ?_)))
      obtain rfl:=ab _ (ois b)
      refine Zm ?_
      exact ⟨H.s,I⟩
     rintro a w ⟨H,I⟩
     refine YA (Zz (t_1 (Zd H R λa H=>Zn H R R R λa H=>Zc H R λa H=>Zj (Zm ?_))))
     exact ⟨_,ois aa,H.s,I⟩
    intro Y e
    refine o_4 (Zu (Zu (YQ ?_)))
    obtain rfl:=X _ (ois e)
    refine Zm ?_
    exact ⟨H.s,I⟩
   rintro a w ⟨H,I⟩
   refine YA (Zz (t_1 (Zd H R λa H=>Zn H R R R λa H=>Zc H R λa H=>Zj (Zm ?_))))
   exact ⟨_,ois W,H.s,I⟩
  intro T d
  refine o_4 (Zu (Zu (YQ ?_)))
  obtain rfl:=O _ (ois d)
  refine Zm ?_
  have I:=M.fst (l:=[_,_]) I.pl1.pl1
  exact ⟨H.s,I⟩
 rintro a w ⟨H,I⟩
 refine Zz (Zb (Zq H R ZE R I.ra0 (u_1 _) ?_)); intro a H
 have I:=I.pl1
 refine Zk (seg:=enc j9) (cs':=enc j9) H I Za R R R ZE (u_1 _) (zle flq) (s_1 _) (Zh flq) λw a I H=>Ze ?_
 obtain rfl:=o_1 N
 have af : Yb prog _ _ (.cell 6 53) _:=ZG H R ZE R I.ra0 (u_1 _) R
 exact p_3 (ZV H R af ⟨_,R,R,I.kept⟩)
def Ws (d : GCipher) (m : Int) (n : (List V16)) (b : V16 × Int) : Option (Fl (V16 × Int) V16) :=
 if decide (b.2 ≤ m) then ((((TE d.Box b.1).bind λe=>(Qm d.Places e).bind λf=>some f : Option (V16)).bind λc=>(if decide (b.2 < m) then ((QO d.Field d.Mix c).bind λh=>some h) else (some c) : Option (V16)).bind λi=>(idx n b.2).bind λj=>(Wf i j).bind λk=>some k : Option (V16)).bind λl=>some (Fl.nx (l,wr (b.2 + 1)))) else (some (Fl.ex b.1))
def X5 (f : GCipher) (j : V16) (k : V16) (h : Int) : Option (V16) :=
 (T8 f j h).bind λi=>((idx i (0 : Int)).bind λb=>(Wf k b).bind λc=>some c : Option (V16)).bind λd=>(ZQ (Ws f h i) (d,1)).bind λe=>some e
theorem Jv (j : World) (b : GCipher) (p1 : V16) (p2 : V16) (q : Int) (r : V16) (J : X5 b p1 p2 q = some r) :
  Calls prog 209 [Value.agg (enc b).toArray,Value.agg (enc p1).toArray,Value.agg (enc p2).toArray,vI q].toArray j (Rt j (Value.agg (enc r).toArray)):=by
 refine ce func209 ?_
 intro a H
 have I:=M.start j
 unfold X5 at J
 refine Zb (Z2 (cs:=cat [[vI b.Field],enc b.Box,enc b.Mix,enc b.Places,[vI b.Rounds]]) H I Za ld R R λo w a I H=>Z2 (cs:=enc p1) H I Za ld R R λb3 w a I H=>Z2 (cs:=enc p2) H I Za ld R R λm w a I H=>Zw H I ZE λn w a I H=>Ze (Zb (Zq H R Kq R I.ra3 cq λa H=>Zq H R ZE R I.ra2 (u_1 _) λa H=>Zd H R ?_))); intro a H
 obtain ⟨G,af,J⟩:=p_1 J
 refine Zp H R (cbm func280) (y6 _ b p1 q G af) ?_
 rintro d w a ⟨_,rfl,hFr,hK⟩ H
 have I:=I.add hK hFr
 refine Zc H R λa H=>Ze ?_
 obtain ⟨ag,f,K⟩:=p_1 J
 refine ZJ (λa w=>Env 48 a [(3,vI q),(4,ptr o 0),(6,ptr m 0),(8,ptr n 0),(9,d)] ∧ M (Old j) j w [osl NoB (G : List V16) d,raw n xp,raw m (enc ag),raw o (cat [[vI b.Field],enc b.Box,enc b.Mix,enc b.Places,[vI b.Rounds]])]) ?_ ?_
 ·obtain ⟨ah,t,f⟩:=bix f
  obtain ⟨y,ai,f⟩:=p_1 f
  refine Z9 [15,16,17,18,19] Yt R R (by decide) R H I (qsP (λz=>Zx z.E Za ld R ZE R (z.M.ra2) (u_1 _) (kr0 R)) (q_m (λ_=>R) (qsP (λz=>Yu z.E Za ld R R s_3 ZE (z.M.sl0) t.1 (kr0 R)) (qsP (λz=>Zx z.E Za ld R ZE R (Xe (z.M.sl0) t.2) (u_1 _) (kr0 R)) (qsP (λz=>Yd z.E Za ld R qf (TQ _ p2 ah y ai) (kc R)) qs0))))) ?_
  ·intro a w u H I
   have I:=I.pl2
   refine Zk (seg:=enc y) (cs':=enc y) H I Za R R R ZE (u_1 _) (zle flq) (s_1 _) (Zh flq) λw a I H=>Zj ?_
   obtain rfl:=o_1 f
   refine Zm ?_
   have I:=M.fst (l:=[_,_,_,_]) I.pl4.pl1.pl3.pl3
   exact ⟨H.s,I⟩
 rintro a w ⟨H,I⟩
 refine s_2 (Zb (Zc H R λa H=>Ze ?_))
 obtain ⟨A,L,N⟩:=p_1 K
 refine Z7 (λa w=>Env 48 a [(6,ptr m 0),(8,ptr n 0)] ∧ M (Old j) j w [raw n xp,raw m (enc A)]) ?_ ?_
 ·refine p_2 ?_
  refine ZR (λ(k : V16 × Int) a w=>Env 48 a [(3,vI q),(4,ptr o 0),(6,ptr m 0),(8,ptr n 0),(9,d),(10,vI k.2)] ∧ M (Old j) j w [osl NoB (G : List V16) d,raw n xp,raw m (enc k.1),raw o (cat [[vI b.Field],enc b.Box,enc b.Mix,enc b.Places,[vI b.Rounds]])]) L ⟨H.s,I⟩ ?_
  rintro k a w ⟨H,I⟩ ap e O
  unfold Ws at e
  refine s_2 (Zb (Zd H R λa H=>Zd H R λa H=>Zn H R R R λa H=>Ze ?_))
  refine c_if H R e ?_ ?_
  ·intro T e
   refine u_2 (Zz ?_)
   obtain ⟨aj,U,W⟩:=p_1 e
   refine ZJ (λa w=>Env 48 a [(3,vI q),(4,ptr o 0),(6,ptr m 0),(8,ptr n 0),(9,d),(10,vI k.2)] ∧ M (Old j) j w [osl NoB (G : List V16) d,raw n xp,raw m (enc aj),raw o (cat [[vI b.Field],enc b.Box,enc b.Mix,enc b.Places,[vI b.Rounds]])]) ?_ ?_
   ·refine p_2 ?_
    obtain ⟨X,h,Y⟩:=p_1 U
    refine ZJ (λa w=>Env 48 a [(3,vI q),(4,ptr o 0),(6,ptr m 0),(8,ptr n 0),(9,d),(10,vI k.2)] ∧ M (Old j) j w [osl NoB (G : List V16) d,raw n xp,raw m (enc X),raw o (cat [[vI b.Field],enc b.Box,enc b.Mix,enc b.Places,[vI b.Rounds]])]) ?_ ?_
    ·obtain ⟨Z,ak,h⟩:=p_1 h
     obtain ⟨B,al,h⟩:=p_1 h
     refine Z9 [25,26,27,28,29,30,31] Yt R R (by decide) R H I (qsP (λz=>Zg z.E Za ld R (yW) (kr0 R)) (qsP (λz=>Zx z.E Za ld R BC R (at_3 (z.M.ra3)) (u_1 _) (kr0 R)) (qsP (λz=>Zg z.E Za ld R (zH) (kr0 R)) (qsP (λz=>Zx z.E Za ld R TS R (at_1 (z.M.ra3)) (u_1 _) (kr0 R)) (qsP (λz=>Zx z.E Za ld R ZE R (z.M.ra2) (u_1 _) (kr0 R)) (qsP (λz=>Yd z.E Za ld R (cbm func282) (yi _ b.Box k.1 Z ak) (kc R)) (qsP (λz=>Yd z.E Za ld R (cbm func281) (jR _ b.Places Z B al) (kc R)) qs0))))))) ?_
     ·intro a w u H I
      have I:=I.pl2
      refine Zk (seg:=enc B) (cs':=enc B) H I Za R R R ZE (u_1 _) (zle flq) (s_1 _) (Zh flq) λw a I H=>Zj ?_
      obtain rfl:=o_1 h
      refine Zm ?_
      have I:=I.pl3.pl1.pl3.pl3
      exact ⟨H.s,I⟩
    rintro a w ⟨H,I⟩
    obtain ⟨aa,c,i⟩:=p_1 Y
    refine ZJ (λa w=>Env 48 a [(3,vI q),(4,ptr o 0),(6,ptr m 0),(8,ptr n 0),(9,d),(10,vI k.2)] ∧ M (Old j) j w [osl NoB (G : List V16) d,raw n xp,raw m (enc aa),raw o (cat [[vI b.Field],enc b.Box,enc b.Mix,enc b.Places,[vI b.Rounds]])]) ?_ ?_
    ·refine Zb (Zd H R λa H=>Zd H R λa H=>Zn H R R R λa H=>Ze ?_)
     refine c_if H R c ?_ ?_
     ·intro ab c
      refine t_1 (Zl H R (qV) λa H=>ZB (v:=(vI b.Field)) H R ty2 R (at_0 I.ra3) λa H=>Zl H R (jb) λa H=>Zq H R Jq R (at_2 I.ra3) (u_1 _) λa H=>Zq H R ZE R I.ra2 (u_1 _) ?_); intro a H
      obtain ⟨C,am,c⟩:=p_1 c
      refine Zp H R (cbm func283) (km _ b.Field b.Mix X C am) ?_
      rintro v w a ⟨rfl,hK⟩ H
      have I:=(I.keep hK).pl2
      refine Zk (seg:=enc C) (cs':=enc C) H I Za R R R ZE (u_1 _) (zle flq) (s_1 _) (Zh flq) λw a I H=>Zj ?_
      obtain rfl:=o_1 c
      refine Zm ?_
      have I:=I.pl3.pl1.pl3.pl3
      exact ⟨H.s,I⟩
     intro ab c
     refine u_2 ?_
     obtain rfl:=o_1 c
     refine Zm ?_
     exact ⟨H.s,I⟩
    rintro a w ⟨H,I⟩
    obtain ⟨an,x,i⟩:=bix i
    obtain ⟨F,ao,i⟩:=p_1 i
    refine Z9 [41,42,43,44,45,46] Yt R R (by decide) R H I (qsP (λz=>Zx z.E Za ld R ZE R (z.M.ra2) (u_1 _) (kr0 R)) (q_m (λ_=>R) (q_m (λ_=>R) (qsP (λz=>Yu z.E Za ld R R s_3 ZE (z.M.sl0) x.1 (kr0 R)) (qsP (λz=>Zx z.E Za ld R ZE R (Xe (z.M.sl0) x.2) (u_1 _) (kr0 R)) (qsP (λz=>Yd z.E Za ld R qf (TQ _ aa an F ao) (kc R)) qs0)))))) ?_
    ·intro a w u H I
     have I:=I.pl2
     refine Zk (seg:=enc F) (cs':=enc F) H I Za R R R ZE (u_1 _) (zle flq) (s_1 _) (Zh flq) λw a I H=>Zj (YA ?_)
     obtain rfl:=o_1 i
     refine Zm ?_
     have I:=I.pl3.pl1.pl3.pl3
     exact ⟨H.s,I⟩
   rintro a w ⟨H,I⟩
   refine t_1 (Zd H R λa H=>Zn H R R R λa H=>Zc H R λa H=>Zj (Zm ?_))
   exact ⟨_,ois W,H.s,I⟩
  intro T e
  refine o_4 (Zu (Zu (YQ ?_)))
  obtain rfl:=O _ (ois e)
  refine Zm ?_
  have I:=M.fst (l:=[_,_]) I.pl2.pl2
  exact ⟨H.s,I⟩
 rintro a w ⟨H,I⟩
 refine Zz (Zb (Zq H R ZE R I.ra1 (u_1 _) λa H=>Zk (seg:=enc A) (cs':=enc A) H I Za R R R ZE (u_1 _) (zle flq) (s_1 _) (Zh flq) λw a I H=>Ze ?_))
 obtain rfl:=o_1 N
 have ac : Yb prog _ _ (.cell 8 53) _:=ZG H R ZE R I.ra0 (u_1 _) R
 exact p_3 (ZV H R ac ⟨_,R,R,I.kept⟩)
def W9 (d : V16) (e : V16) (b : V32 × Int) : Option (Fl (V32 × Int) V32) :=
 if decide (b.2 < 16) then ((ZZ d b.2).bind λc=>(ZZ b.1 b.2).bind λh=>(ZZ e b.2).bind λf=>(ZZ (b.1.setIfInBounds (b.2).toNat c) (wr (16 + b.2))).bind λi=>some (Fl.nx (((b.1.setIfInBounds (b.2).toNat c).setIfInBounds ((wr (16 + b.2))).toNat f),wr (b.2 + 1)))) else (some (Fl.ex b.1))
def VD (e : GCipher) (m : V32) (l : V16) : Option (V32) :=
 (Tc m).bind λf=>(Wf f.1 l).bind λb=>(Wf f.2 l).bind λc=>(X5 e f.2 b e.Rounds).bind λh=>(Wf h b).bind λd=>(X5 e d c e.Rounds).bind λi=>(Wf i c).bind λj=>(ZQ (W9 d j) ((Vector.replicate 32 (0 : UInt8)),0)).bind λk=>some k
theorem zF (U : World) (c : GCipher) (W : V32) (L : V16) (r : V32) (J : VD c W L = some r) :
  Calls prog 260 [Value.agg (enc c).toArray,Value.agg (enc W).toArray,Value.agg (enc L).toArray].toArray U (Rt U (Value.agg (enc r).toArray)):=by
 refine ce func260 ?_
 intro a H
 have I:=M.start U
 unfold VD at J
 refine Zb (Z2 (cs:=cat [[vI c.Field],enc c.Box,enc c.Mix,enc c.Places,[vI c.Rounds]]) H I Za ld R R λb1 w a I H=>Z2 (cs:=enc W) H I Za ld R R λb3 w a I H=>Z2 (cs:=enc L) H I Za ld R R λb5 w a I H=>Zw H I Yq λX w a I H=>Ze (Zb (Zq H R Yq R I.ra2 (u_1 _) ?_))); intro a H
 obtain ⟨o,ax,J⟩:=p_1 J
 refine c_k H I R (cbm func310) (zb _ W o ax) ?_; intro w a I H
 refine Zd H R λa H=>ZM H Za ld R R λa H=>ZM H Za ld R R λa H=>Zw H I ZE λY w a I H=>Zw H I ZE ?_; intro Z w a I H
 have I:=I.pl1
 refine Zk (seg:=enc o.1) (cs':=enc o.1) H I Za R R R ZE (u_1 _) (zle flq) (s_1 _) (Zh flq) ?_; intro w a I H
 have I:=I.pl1
 refine Zk (seg:=enc o.2) (cs':=enc o.2) H I Za R R R ZE (u_1 _) (zle flq) (s_1 _) (Zh flq) λw a I H=>Ze (s_2 ?_)
 obtain ⟨j,ay,J⟩:=p_1 J
 obtain ⟨m,az,J⟩:=p_1 J
 refine Yl (its:=[raw Z (enc o.2),raw Y (enc o.1),raw X xr,raw b5 (enc L),raw b3 (enc W),raw b1 (cat [[vI c.Field],enc c.Box,enc c.Mix,enc c.Places,[vI c.Rounds]])]) (mk:=([mkO 6 (λv=>XS v xp),mkO 7 (λv=>XS v xp)] : Mk)) [20,21,22,23,24,25,9,10] Yt R R (by decide) R H (λu=>M.qE (M.qE (M.q0 I.drew u) emO) emO) (qsP (λz=>Zx z.E Za ld R ZE R (z.M.ra1) (u_1 _) (kr0 R)) (qsP (λz=>Zx z.E Za ld R ZE R (z.M.ra3) (u_1 _) (kr0 R)) (qsP (λz=>Yd z.E Za ld R qf (TQ _ o.1 L j ay) (kc R)) (qsP (λz=>Zx z.E Za ld R ZE R (z.M.ra0) (u_1 _) (kr0 R)) (qsP (λz=>Zx z.E Za ld R ZE R (z.M.ra3) (u_1 _) (kr0 R)) (qsP (λz=>Yd z.E Za ld R qf (TQ _ o.2 L m az) (kc R)) (qsM (pr:=λv=>True) ?_ (qsM (pr:=λv=>True) ?_ qs0)))))))) ?_
 ·intro a w N D z
  have H:=z.E
  have hD : D 6 = false:=z.F
  have I:=z.M
  refine Zw H I ZE ?_; intro a6 w a I H
  have I:=I.pack1 (it:=XS _ xp) (λw w' fp ⟨b',e,k⟩ hb=>⟨b',e,Yz w w' fp k hb⟩) (λfp k=>⟨_,R,k⟩)
  exact ⟨_,_,R,H,M.qFill (mk1:=[]) (mk2:=[_]) (f:=λv=>XS v xp) I R hD,trivial⟩
 ·intro a w N D z
  have H:=z.E
  have hD : D 7 = false:=z.F
  have I:=z.M
  refine Zw H I ZE ?_; intro a7 w a I H
  have I:=I.pack1 (it:=XS _ xp) (λw w' fp ⟨b',e,k⟩ hb=>⟨b',e,Yz w w' fp k hb⟩) (λfp k=>⟨_,R,k⟩)
  exact ⟨_,_,R,H,M.qFill (mk1:=[_]) (mk2:=[]) (f:=λv=>XS v xp) I R hD,trivial⟩
 intro a w N D H I hG h
 have d6:=h 6 (by decide)
 have d7:=h 7 (by decide)
 have I:=(I.sure (pre:=[_,_,_,_,_,_]) d6).pl
 obtain ⟨_,⟨aa,af,_⟩,_⟩:=I.head
 have I:=((I.pack1 Yz (it:=raw aa xp) (λfp ⟨b2,n,k2⟩=>by rw [af] at n; simp [ptr] at n; subst n; exact k2)).sure (pre:=[_,_,_,_,_,_,_]) d7).pl
 obtain ⟨_,⟨ac,ag,_⟩,_⟩:=I.head
 have I:=I.pack1 Yz (it:=raw ac xp) (λfp ⟨b2,n,k2⟩=>by rw [ag] at n; simp [ptr] at n; subst n; exact k2)
 have H:=H.setq (t:=9) R af
 have H:=H.setq (t:=10) R ag
 have I:=I.pl1
 refine Zk (seg:=enc j) (cs':=enc j) H I Za R R R ZE (u_1 _) (zle flq) (s_1 _) (Zh flq) ?_; intro w a I H
 have I:=I.pl1
 refine Zk (seg:=enc m) (cs':=enc m) H I Za R R R ZE (u_1 _) (zle flq) (s_1 _) (Zh flq) λw a I H=>Zj (Zz (s_2 ?_))
 obtain ⟨ah,a1,J⟩:=p_1 J
 obtain ⟨q,a2,J⟩:=p_1 J
 refine Yl (its:=[raw ac (enc m),raw aa (enc j),raw Z (enc o.2),raw Y (enc o.1),raw X xr,raw b5 (enc L),raw b3 (enc W),raw b1 (cat [[vI c.Field],enc c.Box,enc c.Mix,enc c.Places,[vI c.Rounds]])]) (mk:=([mkO 8 (λv=>XS v xp)] : Mk)) [26,27,28,29,30,31,32,33,11] Yt R R (by decide) R H (λu=>M.qE (M.q0 I.drew u) emO) (qsP (λz=>Zx z.E Za ld R Kq R (z.M.ra7) cq (kr0 R)) (qsP (λz=>Zx z.E Za ld R ZE R (z.M.ra2) (u_1 _) (kr0 R)) (qsP (λz=>Zx z.E Za ld R ZE R (z.M.ra1) (u_1 _) (kr0 R)) (qsP (λz=>Zg z.E Za ld R (Zb9) (kr0 R)) (qsP (λz=>Zy (v:=(vI c.Rounds)) z.E Za ld R ty2 R (at_4 (z.M.ra7)) (kr0 R)) (qsP (λz=>Yd z.E Za ld R (cbm func209) (Jv _ c o.2 j c.Rounds ah a1) (kc R)) (qsP (λz=>Zx z.E Za ld R ZE R (z.M.ra1) (u_1 _) (kr0 R)) (qsP (λz=>Yd z.E Za ld R qf (TQ _ ah j q a2) (kc R)) (qsM (pr:=λv=>True) ?_ qs0))))))))) ?_
 ·intro a w ai D z
  have H:=z.E
  have hD : D 8 = false:=z.F
  have I:=z.M
  refine Zw H I ZE ?_; intro ba w a I H
  have I:=I.pack1 (it:=XS _ xp) (λw w' fp ⟨b',e,k⟩ hb=>⟨b',e,Yz w w' fp k hb⟩) (λfp k=>⟨_,R,k⟩)
  exact ⟨_,_,R,H,M.qFill (mk1:=[]) (mk2:=[]) (f:=λv=>XS v xp) I R hD,trivial⟩
 intro a w ai D H I hG h
 have d8:=h 8 (by decide)
 have I:=(I.sure (pre:=[_,_,_,_,_,_,_,_]) d8).pl
 obtain ⟨_,⟨C,aj,_⟩,_⟩:=I.head
 have I:=I.pack1 Yz (it:=raw C xp) (λfp ⟨b2,n,k2⟩=>by rw [aj] at n; simp [ptr] at n; subst n; exact k2)
 have H:=H.setq (t:=11) R aj
 refine Zk (seg:=enc q) (cs':=enc q) H I Za R R R ZE (u_1 _) (zle flq) (s_1 _) (Zh flq) λw a I H=>Zj (Zz (s_2 ?_))
 obtain ⟨ak,a4,J⟩:=p_1 J
 obtain ⟨G,a5,J⟩:=p_1 J
 refine Yl (its:=[raw C (enc q),raw ac (enc m),raw aa (enc j),raw Z (enc o.2),raw Y (enc o.1),raw X xr,raw b5 (enc L),raw b3 (enc W),raw b1 (cat [[vI c.Field],enc c.Box,enc c.Mix,enc c.Places,[vI c.Rounds]])]) (mk:=([mkO 8 (λv=>XS v xp)] : Mk)) [34,35,36,37,38,39,40,41,12] Yt R R (by decide) R H (λu=>M.qE (M.q0 I.drew u) emO) (qsP (λz=>Zx z.E Za ld R Kq R (z.M.ra8) cq (kr0 R)) (qsP (λz=>Zx z.E Za ld R ZE R (z.M.ra0) (u_1 _) (kr0 R)) (qsP (λz=>Zx z.E Za ld R ZE R (z.M.ra1) (u_1 _) (kr0 R)) (qsP (λz=>Zg z.E Za ld R (Zb9) (kr0 R)) (qsP (λz=>Zy (v:=(vI c.Rounds)) z.E Za ld R ty2 R (at_4 (z.M.ra8)) (kr0 R)) (qsP (λz=>Yd z.E Za ld R (cbm func209) (Jv _ c q m c.Rounds ak a4) (kc R)) (qsP (λz=>Zx z.E Za ld R ZE R (z.M.ra1) (u_1 _) (kr0 R)) (qsP (λz=>Yd z.E Za ld R qf (TQ _ ak m G a5) (kc R)) (qsM (pr:=λv=>True) ?_ qs0))))))))) ?_
 ·intro a w al D z
  have H:=z.E
  have hD : D 8 = false:=z.F
  have I:=z.M
  refine Zw H I ZE ?_; intro bb w a I H
  have I:=I.pack1 (it:=XS _ xp) (λw w' fp ⟨b',e,k⟩ hb=>⟨b',e,Yz w w' fp k hb⟩) (λfp k=>⟨_,R,k⟩)
  exact ⟨_,_,R,H,M.qFill (mk1:=[]) (mk2:=[]) (f:=λv=>XS v xp) I R hD,trivial⟩
 intro a w al D H I hG h
 have d8:=h 8 (by decide)
 have I:=(I.sure (pre:=[_,_,_,_,_,_,_,_,_]) d8).pl
 obtain ⟨_,⟨ad,am,_⟩,_⟩:=I.head
 have I:=I.pack1 Yz (it:=raw ad xp) (λfp ⟨b2,n,k2⟩=>by rw [am] at n; simp [ptr] at n; subst n; exact k2)
 have H:=H.setq (t:=12) R am
 refine Zk (seg:=enc G) (cs':=enc G) H I Za R R R ZE (u_1 _) (zle flq) (s_1 _) (Zh flq) λw a I H=>Zj (Zz (Zb (XT (parts:=[]) (vs:=[]) (cs:=enc xc) H Za ld R R Yq R ty5 Xj λa H=>Zw H I Yq λK w a I H=>Zk (seg:=enc xc) (cs':=enc xc) H I Za R R R Yq (u_1 _) (zle flq) (s_1 _) (Zh flq) λw a I H=>Ze (s_2 (Zb (Zc H R λa H=>Ze ?_))))))
 obtain ⟨ae,an,ao⟩:=p_1 J
 refine Z7 (λa w=>Env 59 a [(6,ptr X 0),(13,ptr K 0)] ∧ M (Old U) U w [raw K (enc ae),raw X xr]) ?_ ?_
 ·refine p_2 ?_
  have I:=M.fst (l:=[_,_,_,_]) I.pl7.pl3.pl3.pl3
  refine ZR (λ(d : V32 × Int) a w=>Env 59 a [(6,ptr X 0),(11,ptr C 0),(12,ptr ad 0),(13,ptr K 0),(14,vI d.2)] ∧ M (Old U) U w [raw K (enc d.1),raw ad (enc G),raw C (enc q),raw X xr]) an ⟨H.s,I⟩ ?_
  rintro d a w ⟨H,I⟩ bc b ap
  unfold W9 at b
  refine s_2 (Zb (Zd H R λa H=>Zn H R R R λa H=>Ze ?_))
  refine c_if H R b ?_ ?_
  ·intro aq b
   refine u_2 (Zz (s_2 (p_2 (Zb (Zd H R λa H=>Zd H R ?_))))); intro a H
   obtain ⟨i,O,b⟩:=bvx b
   refine ZO H R R u_3 ty5 O.1 λa H=>ZB (v:=(vB i)) H R ty5 R (At.vec I.ra2 O.2) ?_; intro a H
   obtain ⟨bd,A,b⟩:=bvx b
   refine ZO H R R t_4 ty5 A.1 λa H=>Zk (seg:=[vB i]) (cs':=enc (d.1.setIfInBounds (d.2).toNat i)) H I Za R R R ty5 R (Ya (v:=d.1) (x:=i) A.1) (s_1 (i : UInt8)) (ZP (v:=d.1) (x:=i) A.1) λw a I H=>Ze (t_1 (Zd H R λa H=>Zn H R R R λa H=>Zd H R ?_)); intro a H
   obtain ⟨y,T,b⟩:=bvx b
   refine ZO H R R u_3 ty5 T.1 λa H=>ZB (v:=(vB y)) H R ty5 R (At.vec I.ra1 T.2) ?_; intro a H
   obtain ⟨be,B,b⟩:=bvx b
   refine ZO H R R t_4 ty5 B.1 λa H=>Zk (seg:=[vB y]) (cs':=enc ((d.1.setIfInBounds (d.2).toNat i).setIfInBounds ((wr (16 + d.2))).toNat y)) H I Za R R R ty5 R (Ya (v:=(d.1.setIfInBounds (d.2).toNat i)) (x:=y) B.1) (s_1 (y : UInt8)) (ZP (v:=(d.1.setIfInBounds (d.2).toNat i)) (x:=y) B.1) λw a I H=>Zj (YA (Zz (t_1 (Zd H R λa H=>Zn H R R R λa H=>Zc H R λa H=>Zj (Zm ?_)))))
   exact ⟨_,ois b,H.s,I⟩
  intro aq b
  refine o_4 (Zu (Zu (YQ ?_)))
  obtain rfl:=ap _ (ois b)
  refine Zm ?_
  have I:=M.fst (l:=[_,_]) I.pl3.pl1
  exact ⟨H.s,I⟩
 rintro a w ⟨H,I⟩
 refine Zz (Zb (Zq H R Yq R I.ra0 (u_1 _) ?_)); intro a H
 have I:=I.pl1
 refine Zk (seg:=enc ae) (cs':=enc ae) H I Za R R R Yq (u_1 _) (zle flq) (s_1 _) (Zh flq) λw a I H=>Ze ?_
 obtain rfl:=o_1 ao
 have ar : Yb prog _ _ (.cell 6 32) _:=ZG H R Yq R I.ra0 (u_1 _) R
 exact p_3 (ZV H R ar ⟨_,R,R,I.kept⟩)
def TO (f : GCipher) (e : (List V16)) (b : V32 × Int) : Option (Fl (V32 × Int) V32) :=
 if decide (b.2 < (e.length : Int)) then ((idx e b.2).bind λc=>(VD f b.1 c).bind λd=>some (Fl.nx (d,wr (b.2 + 1)))) else (some (Fl.ex b.1))
def Vp (d : GCipher) (e : (List UInt8)) : Option (V32) :=
 (QN e).bind λf=>(UV f).bind λh=>(Tq).bind λb=>(ZQ (TO d h) (b,0)).bind λc=>some c
theorem Jg (h : World) (c : GCipher) (C : xg) (d : Value) (j : Ro h C [d]) (r : V32) (J : Vp c C = some r) :
  Calls prog 191 [Value.agg (enc c).toArray,d].toArray h (Rt h (Value.agg (enc r).toArray)):=by
 refine ce func191 ?_
 intro a H
 have I:=M.start h
 unfold Vp at J
 refine Zb (Z2 (cs:=cat [[vI c.Field],enc c.Box,enc c.Mix,enc c.Places,[vI c.Rounds]]) H I Za ld R R λL w a I H=>Zw H I Yq λB w a I H=>Ze (Zb (Zd H R ?_))); intro a H
 obtain ⟨N,T,J⟩:=p_1 J
 refine Zp H R (cbm func258) (kf _ C d (I.rdo j) N T) ?_
 rintro U w a ⟨_,rfl,hFr,hK⟩ H
 have I:=I.add hK hFr
 obtain ⟨O,W,J⟩:=p_1 J
 refine Zp H R (cbm func257) (zI _ N U (I.sl0) O W) ?_
 rintro o w a ⟨_,rfl,hFr,hK⟩ H
 have I:=I.add hK hFr
 obtain ⟨k,F,J⟩:=p_1 J
 refine c_k H I R (cbm func259) (ye _  k F) ?_; intro w a I H
 refine Zw H I Yq λe w a I H=>Zc H R λa H=>Zk (seg:=enc k) (cs':=enc k) H I Za R R R Yq (u_1 _) (zle flq) (s_1 _) (Zh flq) λw a I H=>Ze (s_2 (Zb (Zc H R λa H=>Ze ?_)))
 obtain ⟨m,q,t⟩:=p_1 J
 refine Z7 (λa w=>Env 26 a [(4,ptr B 0),(6,ptr e 0)] ∧ M (Old h) h w [raw e (enc m),raw B xr]) ?_ ?_
 ·refine p_2 ?_
  have I:=M.fst (l:=[_,_,_,_]) I.pl4.pl4.pl3.pl3
  refine ZR (λ(f : V32 × Int) a w=>Env 26 a [(2,ptr L 0),(4,ptr B 0),(5,o),(6,ptr e 0),(7,vI f.2)] ∧ M (Old h) h w [raw e (enc f.1),osl NoB (O : List V16) o,raw B xr,raw L (cat [[vI c.Field],enc c.Box,enc c.Mix,enc c.Places,[vI c.Rounds]])]) q ⟨H.s,I⟩ ?_
  rintro f a w ⟨H,I⟩ X b x
  unfold TO at b
  refine s_2 (Zb (Zd H R λa H=>Zd H R λa H=>YE H R s_3 (I.sl1) λa H=>Zn H R R R λa H=>Ze ?_))
  refine c_if H R b ?_ ?_
  ·intro y b
   refine u_2 (Zz (s_2 (p_2 ?_)))
   obtain ⟨G,i,b⟩:=bix b
   obtain ⟨n,K,b⟩:=p_1 b
   refine Z9 [18,19,20,21,22,23,24] Yt R R (by decide) R H I (qsP (λz=>Zx z.E Za ld R Kq R (z.M.ra3) cq (kr0 R)) (qsP (λz=>Zx z.E Za ld R Yq R (z.M.ra0) (u_1 _) (kr0 R)) (q_m (λ_=>R) (q_m (λ_=>R) (qsP (λz=>Yu z.E Za ld R R s_3 ZE (z.M.sl1) i.1 (kr0 R)) (qsP (λz=>Zx z.E Za ld R ZE R (Xe (z.M.sl1) i.2) (u_1 _) (kr0 R)) (qsP (λz=>Yd z.E Za ld R (cbm func260) (zF _ c f.1 G n K) (kc R)) qs0))))))) ?_
   ·intro a w u H I
    refine Zk (seg:=enc n) (cs':=enc n) H I Za R R R Yq (u_1 _) (zle flq) (s_1 _) (Zh flq) λw a I H=>Zj (YA (Zz (t_1 (Zd H R λa H=>Zn H R R R λa H=>Zc H R λa H=>Zj (Zm ?_)))))
    exact ⟨_,ois b,H.s,I⟩
  intro y b
  refine o_4 (Zu (Zu (YQ ?_)))
  obtain rfl:=x _ (ois b)
  refine Zm ?_
  have I:=M.fst (l:=[_,_]) I.pl2.pl1
  exact ⟨H.s,I⟩
 rintro a w ⟨H,I⟩
 refine Zz (Zb (Zq H R Yq R I.ra0 (u_1 _) ?_)); intro a H
 have I:=I.pl1
 refine Zk (seg:=enc m) (cs':=enc m) H I Za R R R Yq (u_1 _) (zle flq) (s_1 _) (Zh flq) λw a I H=>Ze ?_
 obtain rfl:=o_1 t
 have A : Yb prog _ _ (.cell 4 32) _:=ZG H R Yq R I.ra0 (u_1 _) R
 exact p_3 (ZV H R A ⟨_,R,R,I.kept⟩)
def U3 (d : V32) (b : (List UInt8) × Int) : Option (Fl ((List UInt8) × Int) (List UInt8)) :=
 if decide (b.2 < 32) then ((ZZ d b.2).bind λc=>(app 1 b.1 ([c] : List UInt8)).bind λe=>some (Fl.nx ((b.1 ++ ([c] : List UInt8)),wr (b.2 + 1)))) else (some (Fl.ex b.1))
def WB (b : V32) : Option ((List UInt8)) :=
 (ZQ (U3 b) (([] : List UInt8),0)).bind λc=>some c
theorem QU (c : World) (k : V32) (r : xg) (J : WB k = some r) :
  Calls prog 305 [Value.agg (enc k).toArray].toArray c (e_r λv w'=>(∃ u : Value,v = u ∧ Fr c w' [osl NoB (r : List UInt8) u] ∧ Kept (Old c) c w')):=by
 refine ce func305 ?_
 intro a H
 have I:=M.start c
 unfold WB at J
 refine Zb (Z2 (cs:=enc k) H I Za ld R R λx w a I H=>Zc H R λa H=>Ze (Zb (ZL (xs:=[]) (l:=xx) (vs:=[]) H I Za ld R R o_2 ty5 R (by decide) R λy w a I H=>Zc H R λa H=>Ze (s_2 (Zb (Zc H R λa H=>Ze ?_))))))
 obtain ⟨z,m,n⟩:=p_1 J
 refine Z7 (λa w=>∃ u8 : Value,Env 17 a [(3,u8)] ∧ M (Old c) c w [osl NoB (z : List UInt8) u8]) ?_ ?_
 ·refine p_2 ?_
  have I:=I.pl1
  refine ZR (λ(f : xg × Int) a w=>∃ d : Value,Env 17 a [(1,ptr x 0),(3,d),(4,vI f.2)] ∧ M (Old c) c w [raw x (enc k),osl NoB (f.1 : List UInt8) d]) m ⟨y,H.s,I⟩ ?_
  rintro f a w ⟨d,H,I⟩ A b i
  unfold U3 at b
  refine s_2 (Zb (Zd H R λa H=>Zn H R R R λa H=>Ze ?_))
  refine c_if H R b ?_ ?_
  ·intro j b
   refine u_2 (Zz (s_2 (p_2 (t_1 (Zd H R λa H=>Zd H R ?_))))); intro a H
   obtain ⟨h,e,b⟩:=bvx b
   refine ZO H R R t_4 ty5 e.1 λa H=>ZB (v:=(vB h)) H R ty5 R (At.vec I.ra0 e.2) λa H=>ZL (xs:=[.tmp 13]) (l:=([h] : List UInt8)) (vs:=[vB h]) H I Za ld R R o_2 ty5 R (by decide) R ?_; intro B w a I H
   obtain ⟨C,o,b⟩:=p_1 b
   obtain ⟨q,rfl⟩:=Z1 o
   have I:=I.pl2
   refine Z3 H I Za ld R R (I.sl1) o_2 ty5 R (by decide) q λt w a I H=>Zc H R λa H=>Zj (YA (Zz (t_1 (Zd H R λa H=>Zn H R R R λa H=>Zc H R λa H=>Zj (Zm ?_)))))
   have I:=M.fst (l:=[_,_]) I.pl2
   exact ⟨_,ois b,t,H.s,I⟩
  intro j b
  refine o_4 (Zu (Zu (YQ ?_)))
  obtain rfl:=i _ (ois b)
  refine Zm ?_
  have I:=M.fst (l:=[_]) I.pl1
  exact ⟨d,H.s,I⟩
 rintro a w ⟨u8,H,I⟩
 refine Zz (Zb (Zd H R λa H=>Zc H R λa H=>Ze ?_))
 obtain rfl:=o_1 n
 exact p_3 (ZV H R (ZD H R) ⟨_,R,u8,R,I.outF (ZK Yo),I.kept⟩)
def UN (b : Int) : Option ((List UInt8)) :=
 some ([Zv (Jh (WG b 24) 255),Zv (Jh (WG b 16) 255),Zv (Jh (WG b 8) 255),Zv (Jh b 255)] : List UInt8)
theorem HR (c : World) (b : Int) (r : xg) (J : UN b = some r) :
  Calls prog 244 [vI b].toArray c (e_r λv w'=>(∃ d : Value,v = d ∧ Fr c w' [osl NoB (r : List UInt8) d] ∧ Kept (Old c) c w')):=by
 refine ce func244 ?_
 intro a H
 have I:=M.start c
 unfold UN at J
 refine Zb (Zc H R λa H=>Ze (Zb (Zd H R λa H=>BF H Za ld R R (Bf _ _ (by decide)) λa H=>Zn H R R R λa H=>YX H Za ld R s_4 t_3 λa H=>Zd H R λa H=>BF H Za ld R R (Bf _ _ (by decide)) λa H=>Zn H R R R λa H=>YX H Za ld R s_4 t_3 λa H=>Zd H R λa H=>BF H Za ld R R (Bf _ _ (by decide)) λa H=>Zn H R R R ?_))); intro a H
 refine YX H Za ld R s_4 t_3 λa H=>Zd H R λa H=>Zn H R R R λa H=>YX H Za ld R s_4 t_3 λa H=>ZL (xs:=[.tmp 6,.tmp 10,.tmp 14,.tmp 17]) (l:=([Zv (Jh (WG b 24) 255),Zv (Jh (WG b 16) 255),Zv (Jh (WG b 8) 255),Zv (Jh b 255)] : List UInt8)) (vs:=[vB (Zv (Jh (WG b 24) 255)),vB (Zv (Jh (WG b 16) 255)),vB (Zv (Jh (WG b 8) 255)),vB (Zv (Jh b 255))]) H I Za ld R R o_2 ty5 R (by decide) R λe w a I H=>Zc H R λa H=>Ze ?_
 obtain rfl:=o_1 J
 exact p_3 (ZV H R (ZD H R) ⟨_,R,e,R,I.outF (ZK Yo),I.kept⟩)
def Qa (k : V32) (e : GEvent) : Option (V32) :=
 ((WB k).bind λc=>(app 1 c ([Zv e.Kind] : List UInt8)).bind λl=>some (c ++ ([Zv e.Kind] : List UInt8)) : Option ((List UInt8))).bind λf=>(UN e.Number).bind λb=>(app 1 f b).bind λm=>((Wa).bind λh=>(WB e.Tag).bind λd=>(app 1 (f ++ b) d).bind λn=>(Vp h ((f ++ b) ++ d)).bind λi=>some i : Option (V32)).bind λj=>some j
theorem jv (m : World) (x : V32) (c : GEvent) (r : V32) (J : Qa x c = some r) :
  Calls prog 250 [Value.agg (enc x).toArray,Value.agg (enc c).toArray].toArray m (Rt m (Value.agg (enc r).toArray)):=by
 refine ce func250 ?_
 intro a H
 have I:=M.start m
 unfold Qa at J
 refine Zb (Z2 (cs:=enc x) H I Za ld R R λb1 w a I H=>Z2 (cs:=cat [[vI c.Kind],[vI c.Number],enc c.Tag]) H I Za ld R R λG w a I H=>Zw H I Yq λt w a I H=>Ze ?_)
 obtain ⟨K,e,h⟩:=p_1 J
 refine ZJ (λa w=>∃ n : Value,Env 25 a [(3,ptr G 0),(4,ptr t 0),(5,n)] ∧ M (Old m) m w [raw t xr,raw G (cat [[vI c.Kind],[vI c.Number],enc c.Tag]),osl NoB (K : List UInt8) n]) ?_ ?_
 ·obtain ⟨o,L,e⟩:=p_1 e
  refine Yl (its:=[raw t xr,raw G (cat [[vI c.Kind],[vI c.Number],enc c.Tag]),raw b1 (enc x)]) (mk:=([mkO 1 (λv=>osl NoB (o : List UInt8) v),mkO 5 (λv=>osl NoB (([Zv c.Kind] : List UInt8) : List UInt8) v)] : Mk)) [6,7,8,9,10,11] Yt R R (by decide) R H (λu=>M.qE (M.qE (M.q0 I.drew u) emO) emO) (qsP (λz=>Zx z.E Za ld R Yq R (z.M.ra2) (u_1 _) (kr0 R)) (qsM (pr:=λv=>True) ?_ (qsP (λz=>Zg z.E Za ld R (Hp) (kr0 R)) (qsP (λz=>Zy (v:=(vI c.Kind)) z.E Za ld R ty2 R (at_0 (z.M.ra1)) (kr0 R)) (qsP (λz=>YX z.E Za ld R s_4 t_3 (kr0 R)) (qsM (pr:=λv=>True) ?_ qs0)))))) ?_
  ·intro a w k D z
   have H:=z.E
   have hD : D 1 = false:=z.F
   have hM0:=z.M
   have I:=z.M
   refine Zp H R Zeb (QU _ x o L) ?_
   rintro _ w a ⟨_,rfl,hFr,hK⟩ H
   have I:=hM0.add hK hFr
   exact ⟨_,_,R,H,M.qFill (mk1:=[]) (mk2:=[_]) (f:=(λv=>osl NoB (o : List UInt8) v)) I R hD,trivial⟩
  ·intro a w k D z
   have H:=z.E
   have hD : D 5 = false:=z.F
   have I:=z.M
   exact ZL (xs:=[.tmp 10]) (l:=([Zv c.Kind] : List UInt8)) (vs:=[vB (Zv c.Kind)]) H I Za ld R R o_2 ty5 R (by decide) R λai w a I H=>⟨_,_,R,H,M.qFill (mk1:=[_]) (mk2:=[]) (f:=(λv=>osl NoB (([Zv c.Kind] : List UInt8) : List UInt8) v)) I R hD,trivial⟩
  intro a w k D H I hG d
  have d1:=d 1 (by decide)
  have d5:=d 5 (by decide)
  have I:=(I.sure (pre:=[_,_,_]) d1).sure (pre:=[_,_,_,_]) d5
  obtain ⟨al,N,e⟩:=p_1 e
  obtain ⟨O,rfl⟩:=Z1 N
  have I:=I.pl3
  refine Z3 H I Za ld R R (I.sl4) o_2 ty5 R (by decide) O λT w a I H=>Zc H R λa H=>Zj ?_
  obtain rfl:=o_1 e
  refine Zm ?_
  have I:=M.fst (l:=[_,_,_]) I.pl2.pl2
  exact ⟨T,H.s,I⟩
 rintro a w ⟨n,H,I⟩
 refine Zb (Zd H R λa H=>Zl H R (Hk) λa H=>ZB (v:=(vI c.Number)) H R ty2 R (at_1 I.ra1) ?_); intro a H
 obtain ⟨i,U,h⟩:=p_1 h
 refine Zp H R (cbm func244) (HR _ c.Number i U) ?_
 rintro W w a ⟨_,rfl,hFr,hK⟩ H
 have I:=I.add hK hFr
 obtain ⟨am,X,h⟩:=p_1 h
 obtain ⟨Y,rfl⟩:=Z1 X
 have I:=I.pl3
 refine Z3 H I Za ld R R (I.sl1) o_2 ty5 R (by decide) Y λZ w a I H=>Zc H R λa H=>Ze ?_
 obtain ⟨aa,b,y⟩:=p_1 h
 refine ZJ (λa w=>Env 25 a [(4,ptr t 0)] ∧ M (Old m) m w [raw t (enc aa)]) ?_ ?_
 ·obtain ⟨A,ab,b⟩:=p_1 b
  obtain ⟨j,ac,b⟩:=p_1 b
  refine Yl (its:=[osl NoB ((K ++ i) : List UInt8) Z,osl NoB (i : List UInt8) W,raw t xr,raw G (cat [[vI c.Kind],[vI c.Number],enc c.Tag])]) (mk:=([mkO 4 (λv=>osl NoB (j : List UInt8) v)] : Mk)) [18,19,20,21,22] Yt R R (by decide) R H (λu=>M.qE (M.q0 I.drew u) emO) (qsP (λz=>Yd z.E Za ld R Zdo (QA _  A ab) (kc R)) (q_m (λ_=>R) (qsP (λz=>Zg z.E Za ld R (qB) (kr0 R)) (qsP (λz=>Zx z.E Za ld R Yq R (at_2 (z.M.ra3)) (u_1 _) (kr0 R)) (qsM (pr:=λv=>True) ?_ qs0))))) ?_
  ·intro a w B D z
   have H:=z.E
   have hD : D 4 = false:=z.F
   have hM0:=z.M
   have I:=z.M
   refine Zp H R Zeb (QU _ c.Tag j ac) ?_
   rintro _ w a ⟨_,rfl,hFr,hK⟩ H
   have I:=hM0.add hK hFr
   exact ⟨_,_,R,H,M.qFill (mk1:=[]) (mk2:=[]) (f:=(λv=>osl NoB (j : List UInt8) v)) I R hD,trivial⟩
  intro a w B D H I hG d
  have d4:=d 4 (by decide)
  have I:=I.sure (pre:=[_,_,_,_]) d4
  obtain ⟨ao,ad,b⟩:=p_1 b
  obtain ⟨ae,rfl⟩:=Z1 ad
  refine Z3 H I Za ld R R (I.sl4) o_2 ty5 R (by decide) ae ?_; intro af w a I H
  obtain ⟨q,ag,b⟩:=p_1 b
  refine Zp H R Zd2 (Jg _ A ((K ++ i) ++ j) af (I.sl0) q ag) ?_
  rintro v w a ⟨rfl,hK⟩ H
  have I:=(I.keep hK).pl2
  refine Zk (seg:=enc q) (cs':=enc q) H I Za R R R Yq (u_1 _) (zle flq) (s_1 _) (Zh flq) λw a I H=>Zj ?_
  obtain rfl:=o_1 b
  refine Zm ?_
  have I:=M.fst (l:=[_]) I
  exact ⟨H.s,I⟩
 rintro a w ⟨H,I⟩
 obtain rfl:=o_1 y
 have C : Yb prog _ _ (.cell 4 32) _:=ZG H R Yq R I.ra0 (u_1 _) R
 exact p_3 (ZV H R C ⟨_,R,R,I.kept⟩)
def V7 (e : (List GEvent)) (b : V32 × Int) : Option (Fl (V32 × Int) V32) :=
 if decide (b.2 < (e.length : Int)) then ((idx e b.2).bind λc=>(Qa b.1 c).bind λd=>some (Fl.nx (d,wr (b.2 + 1)))) else (some (Fl.ex b.1))
def Tb (d : (List GEvent)) : Option (V32) :=
 (Wa).bind λe=>(mkS 1 (0 : UInt8) 32).bind λf=>(Vp e f).bind λb=>(ZQ (V7 d) (b,0)).bind λc=>some c
theorem Bi (n : World) (Z : xu) (d : Value) (c : Ro n Z [d]) (r : V32) (J : Tb Z = some r) :
  Calls prog 160 [d].toArray n (Rt n (Value.agg (enc r).toArray)):=by
 refine ce func160 ?_
 intro a H
 have I:=M.start n
 unfold Tb at J
 refine Zb (Zw H I Yq λA w a I H=>Ze (s_2 ?_))
 obtain ⟨r4,e5,J⟩:=p_1 J
 obtain ⟨O,e7,J⟩:=p_1 J
 obtain ⟨i,T,J⟩:=p_1 J
 refine Yl (its:=[raw A xr]) (mk:=([mkO 1 (λv=>osl NoB (O : List UInt8) v),mkO 3 (λv=>XS v xr)] : Mk)) [5,6,7,3] Yt R R (by decide) R H (λu=>M.qE (M.qE (M.q0 I.drew u) emO) emO) (qsP (λz=>Yd z.E Za ld R Zdo (QA _  r4 e5) (kc R)) (qsM (pr:=λv=>True) ?_ (qsP (v:=(Value.agg (enc i).toArray)) ?_ (qsM (pr:=λv=>True) ?_ qs0)))) ?_
 ·intro a w j D z
  have H:=z.E
  have hD : D 1 = false:=z.F
  have I:=z.M
  exact qJ H I Za ld R R o_2 ty5 R (by decide) (λ_=>Kj.2 ⟨R,R⟩) e7 λu8 w a I H=>⟨_,_,R,H,M.qFill (mk1:=[]) (mk2:=[_]) (f:=(λv=>osl NoB (O : List UInt8) v)) I R hD,trivial⟩
 ·intro a w j D z
  have H:=z.E
  have U : D 1 = true:=z.p 1 _ R R
  have I:=z.M.sure (pre:=[_]) U
  refine Zp H R Zd2 (Jg _ r4 O (j 1) (I.sl1) i T) ?_
  rintro v w a ⟨rfl,hK⟩ H
  exact ⟨hK,_,R,H⟩
 ·intro a w j D z
  have H:=z.E
  have hD : D 3 = false:=z.F
  have I:=z.M
  refine Zw H I Yq ?_; intro ad w a I H
  have I:=I.pack1 (it:=XS _ xr) (λw w' fp ⟨b',e,k⟩ hb=>⟨b',e,Yz w w' fp k hb⟩) (λfp k=>⟨_,R,k⟩)
  exact ⟨_,_,R,H,M.qFill (mk1:=[_]) (mk2:=[]) (f:=λv=>XS v xr) I R hD,trivial⟩
 intro a w j D H I hG o
 have U:=o 1 (by decide)
 have d3:=o 3 (by decide)
 have I:=((I.sure (pre:=[_]) U).sure (pre:=[_,_]) d3).pl
 obtain ⟨_,⟨h,B,_⟩,_⟩:=I.head
 have I:=I.pack1 Yz (it:=raw h xr) (λfp ⟨b2,W,k2⟩=>by rw [B] at W; simp [ptr] at W; subst W; exact k2)
 have H:=H.setq (t:=3) R B
 refine Zk (seg:=enc i) (cs':=enc i) H I Za R R R Yq (u_1 _) (zle flq) (s_1 _) (Zh flq) λw a I H=>Zj (Zz (s_2 (Zb (Zc H R λa H=>Ze ?_))))
 obtain ⟨x,C,G⟩:=p_1 J
 refine Z7 (λa w=>Env 21 a [(2,ptr A 0),(3,ptr h 0)] ∧ M (Old n) n w [raw h (enc x),raw A xr]) ?_ ?_
 ·refine p_2 ?_
  have I:=M.fst (l:=[_,_]) I.pl1.pl1
  refine ZR (λ(m : V32 × Int) a w=>Env 21 a [(0,d),(2,ptr A 0),(3,ptr h 0),(4,vI m.2)] ∧ M (Old n) n w [raw h (enc m.1),raw A xr]) C ⟨H.s,I⟩ ?_
  rintro m a w ⟨H,I⟩ ag b K
  unfold V7 at b
  refine s_2 (Zb (Zd H R λa H=>Zd H R λa H=>YE H R p_4 (I.rd c) λa H=>Zn H R R R λa H=>Ze ?_))
  refine c_if H R b ?_ ?_
  ·intro L b
   refine u_2 (Zz (s_2 (p_2 ?_)))
   obtain ⟨X,q,b⟩:=bix b
   obtain ⟨y,Y,b⟩:=p_1 b
   refine Z9 [14,15,16,17,18,19] Yt R R (by decide) R H I (qsP (λz=>Zx z.E Za ld R Yq R (z.M.ra0) (u_1 _) (kr0 R)) (q_m (λ_=>R) (q_m (λ_=>R) (qsP (λz=>Yu z.E Za ld R R p_4 Wc (z.M.rd c) q.1 (kr0 R)) (qsP (λz=>Zx z.E Za ld R Wc R (Xe (z.M.rd c) q.2) cq (kr0 R)) (qsP (λz=>Yd z.E Za ld R (cbm func250) (jv _ m.1 X y Y) (kc R)) qs0)))))) ?_
   ·intro a w u H I
    refine Zk (seg:=enc y) (cs':=enc y) H I Za R R R Yq (u_1 _) (zle flq) (s_1 _) (Zh flq) λw a I H=>Zj (YA (Zz (t_1 (Zd H R λa H=>Zn H R R R λa H=>Zc H R λa H=>Zj (Zm ?_)))))
    exact ⟨_,ois b,H.s,I⟩
  intro L b
  refine o_4 (Zu (Zu (YQ ?_)))
  obtain rfl:=K _ (ois b)
  refine Zm ?_
  exact ⟨H.s,I⟩
 rintro a w ⟨H,I⟩
 refine Zz (Zb (Zq H R Yq R I.ra0 (u_1 _) ?_)); intro a H
 have I:=I.pl1
 refine Zk (seg:=enc x) (cs':=enc x) H I Za R R R Yq (u_1 _) (zle flq) (s_1 _) (Zh flq) λw a I H=>Ze ?_
 obtain rfl:=o_1 G
 have N : Yb prog _ _ (.cell 2 32) _:=ZG H R Yq R I.ra0 (u_1 _) R
 exact p_3 (ZV H R N ⟨_,R,R,I.kept⟩)
def Uc (d : V16) : Option (GVault) :=
 ((Tb ([] : (List GEvent))).bind λb=>some (([d] : List V16),1,b) : Option ((List V16) × Int × V32)).bind λc=>some (⟨c.1,c.2.1,[],[],c.2.2⟩ : GVault)
theorem Hw (e : World) (d : V16) (r : GVault) (J : Uc d = some r) :
  Calls prog 53 [Value.agg (enc d).toArray].toArray e (e_r λv w'=>(∃ q t x : Value,v = (vcV q t x r) ∧ Fr e w' [osl NoB (r.Keys : List V16) q,osl NoB (r.Records : List GRecord) t,osl NoB (r.Events : List GEvent) x] ∧ Kept (Old e) e w')):=by
 refine ce func53 ?_
 intro a H
 have I:=M.start e
 unfold Uc at J
 refine Zb (Z2 (cs:=enc d) H I Za ld R R λy w a I H=>Zw H I ZF λk w a I H=>Ze ?_)
 obtain ⟨m,h,n⟩:=p_1 J
 refine ZJ (λa w=>∃ u8 : Value,Env 7 a [(2,ptr k 0)] ∧ M (Old e) e w [raw k (cat [[u8],[vI m.2.1],[xd],[xd],enc m.2.2]),osl NoB (m.1 : List V16) u8]) ?_ ?_
 ·obtain ⟨c,o,h⟩:=p_1 h
  refine Yl (its:=[raw k xi,raw y (enc d)]) (mk:=([mkO 1 (λv=>osl NoB (([d] : List V16) : List V16) v)] : Mk)) [3,4,5] Yt R R (by decide) R H (λu=>M.qE (M.q0 I.drew u) emO) (qsP (λz=>Zx z.E Za ld R ZE R (z.M.ra1) (u_1 _) (kr0 R)) (qsM (pr:=λv=>True) ?_ (qsP (λz=>Yd z.E Za ld R (cbm func160) (Bi _ ([] : xu) xd qp c o) (kc R)) qs0))) ?_
  ·intro a w b D z
   have H:=z.E
   have hD : D 1 = false:=z.F
   have I:=z.M
   exact ZL (xs:=[.tmp 3]) (l:=([d] : List V16)) (vs:=[Value.agg (enc d).toArray]) H I Za ld R R s_3 ZE R (by decide) R λA w a I H=>⟨_,_,R,H,M.qFill (mk1:=[]) (mk2:=[]) (f:=(λv=>osl NoB (([d] : List V16) : List V16) v)) I R hD,trivial⟩
  intro a w b D H I hG i
  have B:=i 1 (by decide)
  have I:=I.sure (pre:=[_,_]) B
  refine ZY (parts:=[(0,.tmp 4),(1,.const (vI 1)),(4,.tmp 5)]) (vs:=[(0,b 1),(1,vI 1),(4,Value.agg (enc c).toArray)]) (cs:=cat [[b 1],[vI 1],[xd],[xd],enc c]) H Za ld R R ZF Kd (ZT (pre:=[]) (seg:=[xd]) (seg':=[b 1]) (post:=[[vI 0],[xd],[xd],enc xc]) R cl0 R R (ZX (I.sl2)) (ZT (pre:=[[b 1]]) (seg:=[vI 0]) (seg':=[vI 1]) (post:=[[xd],[xd],enc xc]) R ck R R R (ZT (pre:=[[b 1],[vI 1],[xd],[xd]]) (seg:=enc xc) (seg':=enc c) (post:=[]) R ck (u_1 _) (u_1 _) R Yp))) λa H=>Zk (seg:=cat [[b 1],[vI 1],[xd],[xd],enc c]) (cs':=cat [[b 1],[vI 1],[xd],[xd],enc c]) H I Za R R R ZF cq (q_1 cq cq) (ZC (cc1 (t_2 (I.sl2)) (cc1 (s_1 (1 : Int)) (cc1 ZN (cc1 ZN (cc1 (s_1 _) cc0)))))) (q_2 cq cq) λw a I H=>Zj ?_
  obtain rfl:=o_1 h
  refine Zm ?_
  have I:=M.fst (l:=[_,_]) I.pl2.pl1
  exact ⟨b 1,H.s,I⟩
 rintro a w ⟨u8,H,I⟩
 have I:=M.nilS (α:=GEvent) NoB noB (M.nilS (α:=GRecord) NoB noB I)
 obtain rfl:=o_1 n
 have j : Yb prog _ _ (.cell 2 79) _:=ZG H R ZF R I.ra2 cq R
 have I:=M.fst (l:=[_,_,_]) I.pl1.pl3
 exact p_3 (ZV H R j ⟨_,R,u8,xd,xd,R,I.outF (ZK (ZK (ZK Yo))),I.kept⟩)
def Uo (b : Int) (c : Int) (d : Int) : Option (Bool) :=
 (if decide (b ≥ c) then (some (decide (b ≤ d))) else (some false) : Option (Bool)).bind λe=>some e
theorem Jk (d : World) (e : Int) (f : Int) (i : Int) (r : Bool) (J : Uo e f i = some r) :
  Calls prog 241 [vI e,vI f,vI i].toArray d (Rt d (vT r)):=by
 refine ce func241 ?_
 intro a H
 have I:=M.start d
 unfold Uo at J
 refine Zb (Zc H R λa H=>Ze ?_)
 obtain ⟨j,c,h⟩:=p_1 J
 refine ZJ (λa w=>Env 15 a [(6,vT j)] ∧ M (Old d) d w []) ?_ ?_
 ·refine t_1 (Zd H R λa H=>Zd H R λa H=>Zn H R R R λa H=>Zd H R ?_); intro a H
  refine Ys (decide (e ≥ f)) (λb=>?_) (λb=>?_)
  ·have c:=Zt c b
   refine Zo H (Zi H R (lkb R b)) (by decide) R λa H=>Zo H (Zi H R (lkb R b)) (by decide) R λa H=>Z8 H (Zi H R (lkb R b)) (by decide) R R R λa H=>ZU H (lkb R b) R λa H=>Zc H R λa H=>Zj ?_
   obtain rfl:=o_1 c
   refine Zm ?_
   exact ⟨H.s,I⟩
  have c:=Zs c b
  refine k_s H b R R R λa H=>k_s H b R R R λa H=>k_s H b R R R λa H=>Ye H (lkb R b) R λa H=>Zc H R λa H=>Zj ?_
  obtain rfl:=o_1 c
  refine Zm ?_
  exact ⟨H.s,I⟩
 rintro a w ⟨H,I⟩
 obtain rfl:=o_1 h
 exact p_3 (kr1 H R R I.kept)
def Tu (b : GEvent) : Option (Bool) :=
 ((Uo b.Kind 1 4).bind λc=>if c then ((Uo b.Number 0 1000000).bind λd=>some d) else (some false) : Option (Bool)).bind λe=>some e
theorem z9 (e : World) (d : GEvent) (r : Bool) (J : Tu d = some r) :
  Calls prog 173 [Value.agg (enc d).toArray].toArray e (Rt e (vT r)):=by
 refine ce func173 ?_
 intro a H
 have I:=M.start e
 unfold Tu at J
 refine Zb (Z2 (cs:=cat [[vI d.Kind],[vI d.Number],enc d.Tag]) H I Za ld R R λn w a I H=>Zc H R λa H=>Ze ?_)
 obtain ⟨j,c,f⟩:=p_1 J
 refine ZJ (λa w=>Env 11 a [(2,vT j)] ∧ M (Old e) e w []) ?_ ?_
 ·refine t_1 (Zl H R (Hp) λa H=>ZB (v:=(vI d.Kind)) H R ty2 R (at_0 I.ra0) ?_); intro a H
  obtain ⟨i,k,c⟩:=p_1 c
  refine c_k H I R Zec (Jk _ d.Kind 1 4 i k) ?_; intro w a I H
  refine Zd H R ?_; intro a H
  refine Ys i (λb=>?_) (λb=>?_)
  ·have c:=Zt c b
   refine Zg H (Zi H R (lkb R b)) (by decide) R (Hk) λa H=>Zy (v:=(vI d.Number)) H (Zi H R (lkb R b)) (by decide) R ty2 R (at_1 I.ra0) ?_; intro a H
   obtain ⟨m,h,c⟩:=p_1 c
   refine Yd H (Zi H R (lkb R b)) (by decide) R Zec (Jk _ d.Number 0 1000000 m h) ?_
   rintro v w a ⟨rfl,hK⟩ H
   have I:=I.keep hK
   refine ZU H (lkb R b) R λa H=>Zc H R λa H=>Zj ?_
   obtain rfl:=o_1 c
   refine Zm ?_
   have I:=M.fst (l:=[]) I
   exact ⟨H.s,I⟩
  have c:=Zs c b
  refine k_s H b R R R λa H=>k_s H b R R R λa H=>k_s H b R R R λa H=>Ye H (lkb R b) R λa H=>Zc H R λa H=>Zj ?_
  obtain rfl:=o_1 c
  refine Zm ?_
  have I:=M.fst (l:=[]) I
  exact ⟨H.s,I⟩
 rintro a w ⟨H,I⟩
 obtain rfl:=o_1 f
 exact p_3 (kr1 H R R I.kept)
def TI (d : GVault) (c : Int × Int) : Option (Fl (Int × Int) (Fl Unit Bool)) :=
 if decide (c.2 < (d.Records.length : Int)) then ((idx d.Records c.2).bind λb=>(if decide (b.Number ≤ c.1) then (some true) else (if decide (b.Number ≥ d.Next) then (some true) else ((Uo b.Version 0 (wr ((d.Keys.length : Int) - 1))).bind λe=>if !e then (some true) else (if decide ((b.Label.length : Int) > 32) then (some true) else (some (decide ((b.Body.length : Int) > 200)))))) : Option (Bool)).bind λf=>if f then (some (Fl.ex (Fl.ex false))) else (some (Fl.nx (b.Number,wr (c.2 + 1))))) else (some (Fl.ex (Fl.nx ())))
def QM (e : GVault) (b : Int) : Option (Fl Int (Fl Unit Bool)) :=
 if decide (b < (e.Events.length : Int)) then ((idx e.Events b).bind λc=>(Tu c).bind λd=>if !d then (some (Fl.ex (Fl.ex false))) else (some (Fl.nx (wr (b + 1))))) else (some (Fl.ex (Fl.nx ())))
def Vq (b : GVault) : Option (Bool) :=
 (if decide ((b.Keys.length : Int) < 1) then (some true) else (if decide ((b.Keys.length : Int) > 8) then (some true) else ((Uo b.Next 1 1000000).bind λc=>if !c then (some true) else (if decide ((b.Records.length : Int) > 12) then (some true) else (some (decide ((b.Events.length : Int) > 60)))))) : Option (Bool)).bind λf=>if f then (some false) else ((ZQ (TI b) (0,0)).bind λd=>d.el (λh=>(ZQ (QM b) 0).bind λe=>e.el (λi=>some true) (λr=>some r)) (λr=>some r))
theorem Kp (B : World) (y : GVault) (d : Value) (E : Ro B y.Keys [d]) (h : Value) (z : Ro B y.Records [h]) (q : Value) (A : Ro B y.Events [q]) (r : Bool) (J : Vq y = some r) :
  Calls prog 149 [vcV d h q y].toArray B (Rt B (vT r)):=by
 refine ce func149 ?_
 intro a H
 have I:=M.start B
 unfold Vq at J
 refine Zb (Z2 (cs:=cV d h q y) H I Za ld R R λT w a I H=>Zc H R λa H=>Ze (s_2 ?_))
 obtain ⟨j3,e,K⟩:=p_1 J
 refine ZJ (λa w=>Env 96 a [(1,ptr T 0),(34,vT j3)] ∧ M (Old B) B w [raw T (cV d h q y)]) ?_ ?_
 ·refine t_1 (Zl H R (XA) λa H=>ZB (v:=d) H R T0 R (at_0 I.ra0) λa H=>YE H R s_3 (I.rd E) λa H=>Zn H R R R λa H=>Zd H R ?_); intro a H
  refine Ys (decide ((y.Keys.length : Int) < 1)) (λt=>?_) (λt=>?_)
  ·have e:=Zt e t
   refine k_s H t R R R λa H=>k_s H t R R R λa H=>k_s H t R R R λa H=>k_s H t R R R λa H=>ZU H (lkb R t) R λa H=>Zd H R λa H=>Zf H R R R (by decide) λa H=>Zf H R R R (by decide) λa H=>Zf H R R R (by decide) λa H=>Zf H R R R (by decide) λa H=>ZU H R R λa H=>Zd H R ?_; intro a H
   refine Zf H R R R (by decide) λa H=>Zf H R R R (by decide) λa H=>Zf H R R R (by decide) λa H=>Zf H R R R (by decide) λa H=>ZU H R R λa H=>Zd H R λa H=>Zf H R R R (by decide) λa H=>Zf H R R R (by decide) λa H=>Zf H R R R (by decide) λa H=>Zf H R R R (by decide) λa H=>ZU H R R λa H=>Zj ?_
   obtain rfl:=o_1 e
   refine Zm ?_
   exact ⟨H.s,I⟩
  have e:=Zs e t
  refine Zg H (Zi H R (lkb R t)) (by decide) R (XA) λa H=>Zy (v:=d) H (Zi H R (lkb R t)) (by decide) R T0 R (at_0 I.ra0) λa H=>WE H (Zi H R (lkb R t)) (by decide) R s_3 (I.rd E) λa H=>Z8 H (Zi H R (lkb R t)) (by decide) R R R λa H=>Ye H (lkb R t) R λa H=>Zd H R ?_; intro a H
  refine Ys (decide ((y.Keys.length : Int) > 8)) (λu=>?_) (λu=>?_)
  ·have e:=Zt e u
   refine k_s H u R R R λa H=>k_s H u R R R λa H=>k_s H u R R R λa H=>k_s H u R R R λa H=>ZU H (lkb R u) R λa H=>Zd H R λa H=>Zf H R R R (by decide) λa H=>Zf H R R R (by decide) λa H=>Zf H R R R (by decide) λa H=>Zf H R R R (by decide) λa H=>ZU H R R λa H=>Zd H R ?_; intro a H
   refine Zf H R R R (by decide) λa H=>Zf H R R R (by decide) λa H=>Zf H R R R (by decide) λa H=>Zf H R R R (by decide) λa H=>ZU H R R λa H=>Zj ?_
   obtain rfl:=o_1 e
   refine Zm ?_
   exact ⟨H.s,I⟩
  have e:=Zs e u
  refine Zg H (Zi H R (lkb R u)) (by decide) R (UA) λa H=>Zy (v:=(vI y.Next)) H (Zi H R (lkb R u)) (by decide) R ty2 R (at_1 I.ra0) ?_; intro a H
  obtain ⟨Z,aq,e⟩:=p_1 e
  refine Yd H (Zi H R (lkb R u)) (by decide) R Zec (Jk _ y.Next 1 1000000 Z aq) ?_
  rintro v w a ⟨rfl,hK⟩ H
  have I:=I.keep hK
  refine KW H (Zi H R (lkb R u)) (by decide) R λa H=>Ye H (lkb R u) R λa H=>Zd H R ?_; intro a H
  refine Ys (!Z) (λj=>?_) (λj=>?_)
  ·have e:=Zt e j
   refine k_s H j R R R λa H=>k_s H j R R R λa H=>k_s H j R R R λa H=>k_s H j R R R λa H=>ZU H (lkb R j) R λa H=>Zd H R λa H=>Zf H R R R (by decide) λa H=>Zf H R R R (by decide) λa H=>Zf H R R R (by decide) λa H=>Zf H R R R (by decide) λa H=>ZU H R R λa H=>Zj ?_
   obtain rfl:=o_1 e
   refine Zm ?_
   exact ⟨H.s,I⟩
  have e:=Zs e j
  refine Zg H (Zi H R (lkb R j)) (by decide) R (Yn) λa H=>Zy (v:=h) H (Zi H R (lkb R j)) (by decide) R XO R (at_2 I.ra0) λa H=>WE H (Zi H R (lkb R j)) (by decide) R o_3 (I.rd z) λa H=>Z8 H (Zi H R (lkb R j)) (by decide) R R R λa H=>Ye H (lkb R j) R λa H=>Zd H R ?_; intro a H
  refine Ys (decide ((y.Records.length : Int) > 12)) (λk=>?_) (λk=>?_)
  ·have e:=Zt e k
   refine k_s H k R R R λa H=>k_s H k R R R λa H=>k_s H k R R R λa H=>k_s H k R R R λa H=>ZU H (lkb R k) R λa H=>Zj ?_
   obtain rfl:=o_1 e
   refine Zm ?_
   exact ⟨H.s,I⟩
  have e:=Zs e k
  refine Zg H (Zi H R (lkb R k)) (by decide) R (XU) λa H=>Zy (v:=q) H (Zi H R (lkb R k)) (by decide) R Qy R (at_3 I.ra0) λa H=>WE H (Zi H R (lkb R k)) (by decide) R p_4 (I.rd A) λa H=>Z8 H (Zi H R (lkb R k)) (by decide) R R R λa H=>Ye H (lkb R k) R λa H=>Zj ?_
  obtain rfl:=o_1 e
  refine Zm ?_
  exact ⟨H.s,I⟩
 rintro a w ⟨H,I⟩
 refine c_if H R K ?_ ?_
 ·intro aa K
  refine Zb (Zc H R λa H=>Ze ?_)
  obtain rfl:=o_1 K
  exact p_3 (ZI (kr1 H R R I.kept))
 intro aa K
 refine u_2 (Zz (Zb (Zc H R λa H=>Ze (s_2 (Zb (Zc H R λa H=>Ze ?_))))))
 obtain ⟨ar,ab,F⟩:=p_1 K
 refine Z7 (λa w=>∃ ac : Unit,ar = Fl.nx ac ∧ Env 96 a [(1,ptr T 0)] ∧ M (Old B) B w [raw T (cV d h q y)]) ?_ ?_
 ·refine p_2 ?_
  refine ZR (λ(L : Int × Int) a w=>Env 96 a [(1,ptr T 0),(3,vI L.1),(4,vI L.2)] ∧ M (Old B) B w [raw T (cV d h q y)]) ab ⟨H.s,I⟩ ?_
  rintro L a w ⟨H,I⟩ a2 x W
  unfold TI at x
  refine s_2 (Zb (Zd H R λa H=>Zl H R (Yn) λa H=>ZB (v:=h) H R XO R (at_2 I.ra0) λa H=>YE H R o_3 (I.rd z) λa H=>Zn H R R R λa H=>Ze ?_))
  refine c_if H R x ?_ ?_
  ·intro ad x
   refine u_2 (Zz (s_2 (p_2 (Zb (Zl H R (Yn) λa H=>ZB (v:=h) H R XO R (at_2 I.ra0) λa H=>Zd H R ?_))))); intro a H
   obtain ⟨m,N,x⟩:=bix x
   refine YG H R R o_3 Yf (I.rd z) N.1 ?_; intro a H
   obtain ⟨a0,ae,af⟩:=Wj z N.2 -- ^
   obtain ⟨O,U,rfl,ag,ah⟩:=YV ae -- ^
   refine Zq H R Yf R (I.atk af (VZ z N.2)) cq λa H=>Zw H I Yf λai w a I H=>Zk (seg:=cR O U m) (cs':=cR O U m) H I Za R R R Yf cq (q_1 cq cq) (ZC (cc1 (s_1 (m.Number : Int)) (cc1 (s_1 (m.Version : Int)) (cc1 (s_1 _) (cc1 (t_2 (I.rd ag)) (cc1 (t_2 (I.rd ah)) (cc1 (s_1 _) cc0))))))) (q_2 cq cq) λw a I H=>Ze (s_2 ?_)
   obtain ⟨au,b,C⟩:=p_1 x
   refine ZJ (λa w=>Env 96 a [(1,ptr T 0),(4,vI L.2),(5,ptr ai 0),(79,vT au)] ∧ M (Old B) B w [raw ai (cR O U m),raw T (cV d h q y)]) ?_ ?_
   ·refine t_1 (Zl H R (VS) λa H=>ZB (v:=(vI m.Number)) H R ty2 R (at_0 I.ra0) λa H=>Zd H R λa H=>Zn H R R R λa H=>Zd H R ?_); intro a H
    refine Ys (decide (m.Number ≤ L.1)) (λf=>?_) (λf=>?_)
    ·have b:=Zt b f
     refine k_s H f R R R λa H=>k_s H f R R R λa H=>k_s H f R R R λa H=>k_s H f R R R λa H=>k_s H f R R R λa H=>ZU H (lkb R f) R λa H=>Zd H R λa H=>Zf H R R R (by decide) λa H=>Zf H R R R (by decide) λa H=>Zf H R R R (by decide) λa H=>Zf H R R R (by decide) λa H=>Zf H R R R (by decide) ?_; intro a H
     refine Zf H R R R (by decide) λa H=>Zf H R R R (by decide) λa H=>Zf H R R R (by decide) λa H=>ZU H R R λa H=>Zd H R λa H=>Zf H R R R (by decide) λa H=>Zf H R R R (by decide) λa H=>Zf H R R R (by decide) λa H=>Zf H R R R (by decide) λa H=>ZU H R R λa H=>Zd H R λa H=>Zf H R R R (by decide) ?_; intro a H
     refine Zf H R R R (by decide) λa H=>Zf H R R R (by decide) λa H=>Zf H R R R (by decide) λa H=>ZU H R R λa H=>Zj ?_
     obtain rfl:=o_1 b
     refine Zm ?_
     exact ⟨H.s,I⟩
    have b:=Zs b f
    refine Zg H (Zi H R (lkb R f)) (by decide) R (VS) λa H=>Zy (v:=(vI m.Number)) H (Zi H R (lkb R f)) (by decide) R ty2 R (at_0 I.ra0) λa H=>Zg H (Zi H R (lkb R f)) (by decide) R (UA) λa H=>Zy (v:=(vI y.Next)) H (Zi H R (lkb R f)) (by decide) R ty2 R (at_1 I.ra1) λa H=>Z8 H (Zi H R (lkb R f)) (by decide) R R R λa H=>Ye H (lkb R f) R λa H=>Zd H R ?_; intro a H
    refine Ys (decide (m.Number ≥ y.Next)) (λc=>?_) (λc=>?_)
    ·have b:=Zt b c
     refine k_s H c R R R λa H=>k_s H c R R R λa H=>k_s H c R R R λa H=>k_s H c R R R λa H=>k_s H c R R R λa H=>k_s H c R R R λa H=>k_s H c R R R λa H=>k_s H c R R R λa H=>ZU H (lkb R c) R λa H=>Zd H R λa H=>Zf H R R R (by decide) λa H=>Zf H R R R (by decide) ?_; intro a H
     refine Zf H R R R (by decide) λa H=>Zf H R R R (by decide) λa H=>ZU H R R λa H=>Zd H R λa H=>Zf H R R R (by decide) λa H=>Zf H R R R (by decide) λa H=>Zf H R R R (by decide) λa H=>Zf H R R R (by decide) λa H=>ZU H R R λa H=>Zj ?_
     obtain rfl:=o_1 b
     refine Zm ?_
     exact ⟨H.s,I⟩
    have b:=Zs b c
    refine Zg H (Zi H R (lkb R c)) (by decide) R (Qe) λa H=>Zy (v:=(vI m.Version)) H (Zi H R (lkb R c)) (by decide) R ty2 R (at_1 I.ra0) λa H=>Zg H (Zi H R (lkb R c)) (by decide) R (XA) λa H=>Zy (v:=d) H (Zi H R (lkb R c)) (by decide) R T0 R (at_0 I.ra1) λa H=>WE H (Zi H R (lkb R c)) (by decide) R s_3 (I.rd E) λa H=>Z8 H (Zi H R (lkb R c)) (by decide) R R R ?_; intro a H
    obtain ⟨aj,av,b⟩:=p_1 b
    refine Yd H (Zi H R (lkb R c)) (by decide) R Zec (Jk _ m.Version 0 (wr ((y.Keys.length : Int) - 1)) aj av) ?_
    rintro v w a ⟨rfl,hK⟩ H
    have I:=I.keep hK
    refine KW H (Zi H R (lkb R c)) (by decide) R λa H=>Ye H (lkb R c) R λa H=>Zd H R ?_; intro a H
    refine Ys (!aj) (λn=>?_) (λn=>?_)
    ·have b:=Zt b n
     refine k_s H n R R R λa H=>k_s H n R R R λa H=>k_s H n R R R λa H=>k_s H n R R R λa H=>ZU H (lkb R n) R λa H=>Zd H R λa H=>Zf H R R R (by decide) λa H=>Zf H R R R (by decide) λa H=>Zf H R R R (by decide) λa H=>Zf H R R R (by decide) λa H=>ZU H R R λa H=>Zj ?_
     obtain rfl:=o_1 b
     refine Zm ?_
     exact ⟨H.s,I⟩
    have b:=Zs b n
    refine Zg H (Zi H R (lkb R n)) (by decide) R (Ko) λa H=>Zy (v:=O) H (Zi H R (lkb R n)) (by decide) R X7 R (at_3 I.ra0) λa H=>WE H (Zi H R (lkb R n)) (by decide) R o_2 (I.rd ag) λa H=>Z8 H (Zi H R (lkb R n)) (by decide) R R R λa H=>Ye H (lkb R n) R λa H=>Zd H R ?_; intro a H
    refine Ys (decide ((m.Label.length : Int) > 32)) (λo=>?_) (λo=>?_)
    ·have b:=Zt b o
     refine k_s H o R R R λa H=>k_s H o R R R λa H=>k_s H o R R R λa H=>k_s H o R R R λa H=>ZU H (lkb R o) R λa H=>Zj ?_
     obtain rfl:=o_1 b
     refine Zm ?_
     exact ⟨H.s,I⟩
    have b:=Zs b o
    refine Zg H (Zi H R (lkb R o)) (by decide) R (Uy) λa H=>Zy (v:=U) H (Zi H R (lkb R o)) (by decide) R X7 R (at_4 I.ra0) λa H=>WE H (Zi H R (lkb R o)) (by decide) R o_2 (I.rd ah) λa H=>Z8 H (Zi H R (lkb R o)) (by decide) R R R λa H=>Ye H (lkb R o) R λa H=>Zj ?_
    obtain rfl:=o_1 b
    refine Zm ?_
    exact ⟨H.s,I⟩
   rintro a w ⟨H,I⟩
   refine c_if H R C ?_ ?_
   ·intro ak C
    refine Zb (Zc H R λa H=>Ze ?_)
    obtain rfl:=W _ (ois C)
    obtain rfl:=o_1 F
    exact p_3 (ZI (Xl (ZI (ZI (Xl (ZI (ZI (kr1 H R R I.kept))))))))
   intro ak C
   refine u_2 (Zz (t_1 (Zl H R (VS) λa H=>ZB (v:=(vI m.Number)) H R ty2 R (at_0 I.ra0) λa H=>Zc H R λa H=>Zj (YA (Zz (t_1 (Zd H R λa H=>Zn H R R R λa H=>Zc H R λa H=>Zj (Zm ?_))))))))
   have I:=M.fst (l:=[_]) I.pl1
   exact ⟨_,ois C,H.s,I⟩
  intro ad x
  refine o_4 (Zu (Zu (YQ ?_)))
  obtain rfl:=W _ (ois x)
  refine Zm ?_
  exact ⟨(),R,H.s,I⟩
 rintro a w ⟨ac,ht,H,I⟩
 subst ht
 have F:=Kv F
 refine Zz (s_2 (Zb (Zc H R λa H=>Ze ?_)))
 obtain ⟨aw,al,G⟩:=p_1 F
 refine Z7 (λa w=>∃ am : Unit,aw = Fl.nx am ∧ Env 96 a [] ∧ M (Old B) B w []) ?_ ?_
 ·refine p_2 ?_
  refine ZR (λ(an : Int) a w=>Env 96 a [(1,ptr T 0),(6,vI an)] ∧ M (Old B) B w [raw T (cV d h q y)]) al ⟨H.s,I⟩ ?_
  rintro an a w ⟨H,I⟩ a3 i X
  unfold QM at i
  refine s_2 (Zb (Zd H R λa H=>Zl H R (XU) λa H=>ZB (v:=q) H R Qy R (at_3 I.ra0) λa H=>YE H R p_4 (I.rd A) λa H=>Zn H R R R λa H=>Ze ?_))
  refine c_if H R i ?_ ?_
  ·intro ao i
   refine u_2 (Zz (s_2 (p_2 (Zb (Zl H R (XU) λa H=>ZB (v:=q) H R Qy R (at_3 I.ra0) λa H=>Zd H R ?_))))); intro a H
   obtain ⟨ax,Y,i⟩:=bix i
   refine YG H R R p_4 Wc (I.rd A) Y.1 λa H=>Zq H R Wc R (Xe (I.rd A) Y.2) cq ?_; intro a H
   obtain ⟨ay,az,i⟩:=p_1 i
   refine c_k H I R (cbm func173) (z9 _ ax ay az) ?_; intro w a I H
   refine JD H R λa H=>Ze ?_
   refine c_if H R i ?_ ?_
   ·intro ap i
    refine Zb (Zc H R λa H=>Ze ?_)
    obtain rfl:=X _ (ois i)
    obtain rfl:=o_1 G
    exact p_3 (Xl (ZI (ZI (Xl (ZI (ZI (kr1 H R R I.kept)))))))
   intro ap i
   refine u_2 (YA (Zz (t_1 (Zd H R λa H=>Zn H R R R λa H=>Zc H R λa H=>Zj (Zm ?_)))))
   exact ⟨_,ois i,H.s,I⟩
  intro ao i
  refine o_4 (Zu (Zu (YQ ?_)))
  obtain rfl:=X _ (ois i)
  refine Zm ?_
  have I:=M.fst (l:=[]) I
  exact ⟨(),R,H.sub trivial,I⟩
 rintro a w ⟨am,ht,H,I⟩
 subst ht
 have G:=Kv G
 refine Zz (Zb (Zc H R λa H=>Ze ?_))
 obtain rfl:=o_1 G
 exact p_3 (kr1 H R R I.kept)
def T7 (f : GVault) (c : (List GRecord) × Int) : Option (Fl ((List GRecord) × Int) (List GRecord)) :=
 if decide (c.2 < (f.Records.length : Int)) then ((idx f.Records c.2).bind λb=>(XI b.Label).bind λd=>(XI b.Body).bind λe=>(app 112 c.1 ([(⟨b.Number,b.Version,b.Nonce,d,e,b.Tag⟩ : GRecord)] : List GRecord)).bind λh=>some (Fl.nx ((c.1 ++ ([(⟨b.Number,b.Version,b.Nonce,d,e,b.Tag⟩ : GRecord)] : List GRecord)),wr (c.2 + 1)))) else (some (Fl.ex c.1))
def Vv (b : GVault) : Option (GVault) :=
 (app 16 ([] : List V16) b.Keys).bind λe=>(app 48 ([] : List GEvent) b.Events).bind λd=>(ZQ (T7 b) ([],0)).bind λc=>some (⟨([] : List V16) ++ b.Keys,b.Next,c,([] : List GEvent) ++ b.Events,b.Head⟩ : GVault)
theorem KP (A : World) (i : GVault) (m : Value) (O : Ro A i.Keys [m]) (n : Value) (q : Ro A i.Records [n]) (o : Value) (T : Ro A i.Events [o]) (r : GVault) (J : Vv i = some r) :
  Calls prog 151 [vcV m n o i].toArray A (e_r λv w'=>(∃ y1 y2 y3 : Value,v = (vcV y1 y2 y3 r) ∧ Fr A w' [osl NoB (r.Keys : List V16) y1,osl NoB (r.Records : List GRecord) y2,osl NoB (r.Events : List GEvent) y3] ∧ Kept (Old A) A w')):=by
 refine ce func151 ?_
 intro a H
 have I:=M.start A
 unfold Vv at J
 refine Zb (Z2 (cs:=cV m n o i) H I Za ld R R λb1 w a I H=>Zw H I ZF λX w a I H=>Ze (s_2 ?_))
 obtain ⟨l8,e9,J⟩:=p_1 J
 obtain ⟨a7,aq,J⟩:=p_1 J
 refine Yl (its:=[raw X xi,raw b1 (cV m n o i)]) (mk:=([mkN [(3,λv=>osl NoB ((([] : List V16) ++ i.Keys) : List V16) v),(0,λv=>osl NoB (([] : List V16) : List V16) v)],mkN [(9,λv=>osl NoB ((([] : List GEvent) ++ i.Events) : List GEvent) v),(6,λv=>osl NoB (([] : List GEvent) : List GEvent) v)],mkO 13 (λv=>XS v xi)] : Mk)) [6,7,8,9,10,11,12,13,14,15,16,17,18,3] Yt R R (by decide) R H (λu=>M.qE (M.qE (M.qE (M.q0 I.drew u) emO) emN) emN) (qsM (pr:=λv=>True) ?_ (qsP (λz=>Zg z.E Za ld R (XA) (kr0 R)) (qsP (λz=>Zy (v:=m) z.E Za ld R T0 R (at_0 (z.M.ra1)) (kr0 R)) (qsM (pr:=λv=>True) ?_ (qsP (λz=>Zg z.E Za ld R (UA) (kr0 R)) (qsP (λz=>Zy (v:=(vI i.Next)) z.E Za ld R ty2 R (at_1 (z.M.ra1)) (kr0 R)) (qsM (pr:=λv=>True) ?_ (qsP (λz=>Zg z.E Za ld R (XU) (kr0 R)) (qsP (λz=>Zy (v:=o) z.E Za ld R Qy R (at_3 (z.M.ra1)) (kr0 R)) (qsM (pr:=λv=>True) ?_ (qsP (λz=>Zg z.E Za ld R (He) (kr0 R)) (qsP (λz=>Zx z.E Za ld R Yq R (at_4 (z.M.ra1)) (u_1 _) (kr0 R)) (qsD (ds:=[3,9]) (f:=λus=>(Value.agg (cV (us.getD 0 undef) xd (us.getD 1 undef) i).toArray)) ?_ (qsM (pr:=λv=>True) ?_ qs0)))))))))))))) ?_
 ·intro a w b D z
  have H:=z.E
  have hD : D 0 = false:=z.F
  have I:=z.M
  refine ZL (xs:=[]) (l:=([] : List V16)) (vs:=[]) H I Za ld R R s_3 ZE R (by decide) R ?_; intro u6 w a I H
  have Y : D 3 = false:=WH (j:=3) (k:=0) z.c R R R hD
  exact ⟨_,_,R,H,M.qPut (mk1:=[]) (mk2:=[_,_]) I R (Bp (HH Y (HH hD HK))) (K7 (l:=[_]) (HH Y HK)),trivial⟩
 ·intro a w b D z
  have H:=z.E
  have hD : D 3 = false:=z.F
  have d0 : D 0 = true:=z.p 0 _ R R
  have I:=(z.M.chnF (pre:=[_,_]) hD).chnT (pre:=[_,_]) d0
  obtain ⟨ar,rfl⟩:=Z1 e9
  have I:=I.pl2
  exact Z3 H I Za ld R R (I.rd O) s_3 ZE R (by decide) ar λa9 w a I H=>⟨_,_,R,H,M.qTogS (mk1:=[]) (mk2:=[_,_]) I R (K7 (l:=[]) HK),trivial⟩
 ·intro a w b D z
  have H:=z.E
  have hD : D 6 = false:=z.F
  have I:=z.M
  refine ZL (xs:=[]) (l:=([] : List GEvent)) (vs:=[]) H I Za ld R R p_4 Wc R (by decide) R ?_; intro ba w a I H
  have Z : D 9 = false:=WH (j:=9) (k:=0) z.c R R R hD
  exact ⟨_,_,R,H,M.qPut (mk1:=[_]) (mk2:=[_]) I R (Bp (HH Z (HH hD HK))) (K7 (l:=[_]) (HH Z HK)),trivial⟩
 ·intro a w b D z
  have H:=z.E
  have hD : D 9 = false:=z.F
  have d6 : D 6 = true:=z.p 0 _ R R
  have I:=(z.M.chnF (pre:=[_,_,_]) hD).chnT (pre:=[_,_,_]) d6
  obtain ⟨au,rfl⟩:=Z1 aq
  have I:=I.pl3
  exact Z3 H I Za ld R R (I.rd T) p_4 Wc R (by decide) au λbc w a I H=>⟨_,_,R,H,M.qTogS (mk1:=[_]) (mk2:=[_]) I R (K7 (l:=[]) HK),trivial⟩
 ·intro a w b D z
  have H:=z.E
  have d3 : D 3 = true:=z.p 0 _ R R
  have d9 : D 9 = true:=z.p 2 _ R R
  have I:=(z.M.chnT (pre:=[_,_]) d3).chnT (pre:=[_,_,_]) d9
  exact ZY (parts:=[(0,.tmp 9),(1,.tmp 11),(3,.tmp 15),(4,.tmp 17)]) (vs:=[(0,b 3),(1,vI i.Next),(3,b 9),(4,Value.agg (enc i.Head).toArray)]) (cs:=cV (b 3) xd (b 9) i) H Za ld R R ZF Kd (ZT (pre:=[]) (seg:=[xd]) (seg':=[b 3]) (post:=[[vI 0],[xd],[xd],enc xc]) R cl0 R R (ZX (I.sl2)) (ZT (pre:=[[b 3]]) (seg:=[vI 0]) (seg':=[vI i.Next]) (post:=[[xd],[xd],enc xc]) R ck R R R (ZT (pre:=[[b 3],[vI i.Next],[xd]]) (seg:=[xd]) (seg':=[b 9]) (post:=[enc xc]) R ck R R (ZX (I.sl3)) (ZT (pre:=[[b 3],[vI i.Next],[xd],[b 9]]) (seg:=enc xc) (seg':=enc i.Head) (post:=[]) R ck (u_1 _) (u_1 _) R Yp)))) λa H=>⟨o_5 _ _,J8 d3 (J8 d9 HJ),_,R,H⟩
 ·intro a w b D z
  have H:=z.E
  have hD : D 13 = false:=z.F
  have I:=z.M
  refine Zw H I ZF ?_; intro bd w a I H
  have I:=I.pack1 (it:=XS _ xi) (λw w' fp ⟨b',e,k⟩ hb=>⟨b',e,Yz w w' fp k hb⟩) (λfp k=>⟨_,R,k⟩)
  exact ⟨_,_,R,H,M.qFill (mk1:=[_,_]) (mk2:=[]) (f:=λv=>XS v xi) I R hD,trivial⟩
 intro a w b D H I hG B
 have d3:=B 3 (by decide)
 have d9:=B 9 (by decide)
 have av:=B 13 (by decide)
 have I:=(((I.chnT (pre:=[_,_]) d3).chnT (pre:=[_,_,_]) d9).sure (pre:=[_,_,_,_]) av).pl
 obtain ⟨_,⟨C,aa,_⟩,_⟩:=I.head
 have I:=I.pack1 Yz (it:=raw C xi) (λfp ⟨b2,e2,k2⟩=>by rw [aa] at e2; simp [ptr] at e2; subst e2; exact k2)
 have H:=H.setq (t:=3) R aa
 refine Zk (seg:=cV (b 3) xd (b 9) i) (cs':=cV (b 3) xd (b 9) i) H I Za R R R ZF cq (q_1 cq cq) (ZC (cc1 (t_2 (I.sl3)) (cc1 (s_1 (i.Next : Int)) (cc1 ZN (cc1 (t_2 (I.sl4)) (cc1 (s_1 _) cc0)))))) (q_2 cq cq) λw a I H=>Zj (Zz (s_2 (Zb (Zc H R λa H=>Ze ?_))))
 obtain ⟨ax,ab,ac⟩:=p_1 J
 refine Z7 (λa w=>∃ x : Value,Env 46 a [(2,ptr X 0),(3,ptr C 0)] ∧ M (Old A) A w [raw C (cV (b 3) x (b 9) i),raw X xi,osl NoB ((([] : List V16) ++ i.Keys) : List V16) (b 3),osl NoB ((([] : List GEvent) ++ i.Events) : List GEvent) (b 9),osl NoB (ax : List GRecord) x]) ?_ ?_
 ·refine p_2 ?_
  have I:=(((((M.nilS (α:=GRecord) NoB noB I).pl5).pl5).pl5).pl5).pl5
  refine ZR (λ(U : (List GRecord) × Int) a w=>∃ G : Value,Env 46 a [(1,ptr b1 0),(2,ptr X 0),(3,ptr C 0),(4,vI U.2)] ∧ M (Old A) A w [raw C (cV (b 3) G (b 9) i),raw X xi,raw b1 (cV m n o i),osl NoB ((([] : List V16) ++ i.Keys) : List V16) (b 3),osl NoB ((([] : List GEvent) ++ i.Events) : List GEvent) (b 9),osl NoB (U.1 : List GRecord) G]) ab ⟨xd,H.s,I⟩ ?_
  rintro U a w ⟨G,H,I⟩ bg h ad
  unfold T7 at h
  refine s_2 (Zb (Zd H R λa H=>Zl H R (Yn) λa H=>ZB (v:=n) H R XO R (at_2 I.ra2) λa H=>YE H R o_3 (I.rd q) λa H=>Zn H R R R λa H=>Ze ?_))
  refine c_if H R h ?_ ?_
  ·intro ae h
   refine u_2 (Zz (s_2 (p_2 (Zb (Zl H R (Yn) λa H=>ZB (v:=n) H R XO R (at_2 I.ra2) λa H=>Zd H R ?_))))); intro a H
   obtain ⟨d,K,h⟩:=bix h
   refine YG H R R o_3 Yf (I.rd q) K.1 ?_; intro a H
   obtain ⟨a5,af,ag⟩:=Wj q K.2 -- ^
   obtain ⟨L,N,rfl,ah,ai⟩:=YV af -- ^
   refine Zq H R Yf R (I.atk ag (VZ q K.2)) cq λa H=>Zw H I Yf λbh w a I H=>Zk (seg:=cR L N d) (cs':=cR L N d) H I Za R R R Yf cq (q_1 cq cq) (ZC (cc1 (s_1 (d.Number : Int)) (cc1 (s_1 (d.Version : Int)) (cc1 (s_1 _) (cc1 (t_2 (I.rd ah)) (cc1 (t_2 (I.rd ai)) (cc1 (s_1 _) cc0))))))) (q_2 cq cq) λw a I H=>Ze (Zb (Zl H R (Ko) λa H=>ZB (v:=L) H R X7 R (at_3 I.ra0) ?_)); intro a H
   obtain ⟨aj,ay,h⟩:=p_1 h
   refine Zp H R cb96 (Qq _ d.Label L (I.rdo ah) aj ay) ?_
   rintro y w a ⟨_,rfl,hFr,hK⟩ H
   have I:=I.add hK hFr
   refine Zl H R (Ko) ?_; intro a H
   have I:=I.pl1
   refine Zk (seg:=[y]) H I Za R R (ZX (I.sl1)) X7 R (YN (pre:=[[vI d.Number],[vI d.Version],enc d.Nonce]) ck R) (t_2 (I.sl1)) (Z4 (pre:=[[vI d.Number],[vI d.Version],enc d.Nonce]) ck R) λw a I H=>Ze (Zb (Zl H R (Uy) λa H=>ZB (v:=N) H R X7 R (at_4 I.ra0) ?_)); intro a H
   obtain ⟨ak,az,h⟩:=p_1 h
   refine Zp H R cb96 (Qq _ d.Body N (I.rdo ai) ak az) ?_
   rintro W w a ⟨_,rfl,hFr,hK⟩ H
   have I:=I.add hK hFr
   refine Zl H R (Uy) ?_; intro a H
   have I:=I.pl1
   refine Zk (seg:=[W]) H I Za R R (ZX (I.sl1)) X7 R (YN (pre:=[[vI d.Number],[vI d.Version],enc d.Nonce,[y]]) ck R) (t_2 (I.sl1)) (Z4 (pre:=[[vI d.Number],[vI d.Version],enc d.Nonce,[y]]) ck R) λw a I H=>Ze (t_1 (Zl H R (Yn) λa H=>ZB (v:=G) H R XO R (at_2 I.ra3) λa H=>Zq H R Yf R I.ra0 cq ?_)); intro a H
   have I:=I.pl1.pl2
   have I:=I.pack2 (it:=own NoB (⟨d.Number,d.Version,d.Nonce,aj,ak,d.Tag⟩ : GRecord) (cR y W d)) (X4 noB) (λf0 f1 q0 q1=>(KD (WK.sat q0) (WK.sat q1) (by simp)))
   refine Js (xs:=[.tmp 41]) (seg:=cR y W d) H I noB Za ld R R o_3 Yf R (by decide) ?_; intro bi w a I H
   obtain ⟨bj,a0,h⟩:=p_1 h
   obtain ⟨a1,rfl⟩:=Z1 a0
   have I:=I.pl7
   refine KL H I noB Za ld R R o_3 Yf R (by decide) a1 λal w a I H=>Zl H R (Yn) ?_; intro a H
   have I:=I.pl2
   refine Zk (seg:=[al]) H I Za R R (ZX (I.sl1)) XO R (YN (pre:=[[b 3],[vI i.Next]]) ck R) (t_2 (I.sl1)) (Z4 (pre:=[[b 3],[vI i.Next]]) ck R) λw a I H=>Zj (YA (Zz (t_1 (Zd H R λa H=>Zn H R R R λa H=>Zc H R λa H=>Zj (Zm ?_)))))
   have I:=M.fst (l:=[_,_,_,_,_,_]) I.pl1.pl6.pl6.pl6.pl6.pl5
   exact ⟨_,ois h,al,H.s,I⟩
  intro ae h
  refine o_4 (Zu (Zu (YQ ?_)))
  obtain rfl:=ad _ (ois h)
  refine Zm ?_
  have I:=M.fst (l:=[_,_,_,_,_]) I.pl5.pl5.pl5.pl4.pl4
  exact ⟨G,H.s,I⟩
 rintro a w ⟨x,H,I⟩
 refine Zz (Zb (Zq H R ZF R I.ra0 cq ?_)); intro a H
 have I:=I.pl1
 refine Zk (seg:=cV (b 3) x (b 9) i) (cs':=cV (b 3) x (b 9) i) H I Za R R R ZF cq (q_1 cq cq) (ZC (cc1 (t_2 (I.sl2)) (cc1 (s_1 (i.Next : Int)) (cc1 (t_2 (I.sl4)) (cc1 (t_2 (I.sl3)) (cc1 (s_1 _) cc0)))))) (q_2 cq cq) λw a I H=>Ze ?_
 obtain rfl:=o_1 ac
 have am : Yb prog _ _ (.cell 2 79) _:=ZG H R ZF R I.ra0 cq R
 have I:=M.fst (l:=[_,_,_]) I.pl3.pl4.pl4
 exact p_3 (ZV H R am ⟨_,R,b 3,x,b 9,R,I.outF (ZK (ZK (ZK Yo))),I.kept⟩)
def XH (b : GVault) (c : Int) (d : Int) (e : V32) : Option (GVault) :=
 (app 48 b.Events ([(⟨c,d,e⟩ : GEvent)] : List GEvent)).bind λh=>(Tb (b.Events ++ ([(⟨c,d,e⟩ : GEvent)] : List GEvent))).bind λf=>some (⟨b.Keys,b.Next,b.Records,b.Events ++ ([(⟨c,d,e⟩ : GEvent)] : List GEvent),f⟩ : GVault)
theorem Kw (St : Nat → Prop) (W t : World) (its : List Item) (e : GVault) (b : Value) (c : Value) (f : Value) (h : Int) (i : Int) (j : V32) (I : M St W t (osl NoB (e.Keys : List V16) b :: osl NoB (e.Records : List GRecord) c :: osl NoB (e.Events : List GEvent) f :: its)) (r : GVault) (J : XH e h i j = some r) :
  Calls prog 154 [vcV b c f e,vI h,vI i,Value.agg (enc j).toArray].toArray t (e_r λv w'=>(∃ u x y : Value,v = (vcV u x y r) ∧ M St W w' (osl NoB (r.Keys : List V16) u :: osl NoB (r.Records : List GRecord) x :: osl NoB (r.Events : List GEvent) y :: its))):=by
 refine ce func154 ?_
 intro a H
 unfold XH at J
 refine Zb (Z2 (cs:=cV b c f e) H I Za ld R R λz w a I H=>Z2 (cs:=enc j) H I Za ld R R λA w a I H=>Zw H I ZF λB w a I H=>Ze (Zb (Zl H R (XU) λa H=>ZB (v:=f) H R Qy R (at_3 I.ra2) λa H=>Zd H R λa H=>Zd H R λa H=>Zq H R Yq R I.ra1 (u_1 _) λa H=>ZY (parts:=[(0,.tmp 11),(1,.tmp 12),(2,.tmp 13)]) (vs:=[(0,vI h),(1,vI i),(2,Value.agg (enc j).toArray)]) (cs:=cat [[vI h],[vI i],enc j]) H Za ld R R Wc kS (ZT (pre:=[]) (seg:=[vI 0]) (seg':=[vI h]) (post:=[[vI 0],enc xc]) R cl0 R R R (ZT (pre:=[[vI h]]) (seg:=[vI 0]) (seg':=[vI i]) (post:=[enc xc]) R ck R R R (ZT (pre:=[[vI h],[vI i]]) (seg:=enc xc) (seg':=enc j) (post:=[]) R ck (u_1 _) (u_1 _) R Yp))) λa H=>ZL (xs:=[.tmp 14]) (l:=([(⟨h,i,j⟩ : GEvent)] : List GEvent)) (vs:=[Value.agg (enc (⟨h,i,j⟩ : GEvent)).toArray]) H I Za ld R R p_4 Wc R (by decide) R ?_))); intro C w a I H
 obtain ⟨E,n,J⟩:=p_1 J
 obtain ⟨o,rfl⟩:=Z1 n
 have I:=I.pl6
 refine Z3 H I Za ld R R (I.sl1) p_4 Wc R (by decide) o λd w a I H=>Zl H R (XU) ?_; intro a H
 have I:=I.pl4
 refine Zk (seg:=[d]) H I Za R R (ZX (I.sl1)) Qy R (YN (pre:=[[b],[vI e.Next],[c]]) ck R) (t_2 (I.sl1)) (Z4 (pre:=[[b],[vI e.Next],[c]]) ck R) λw a I H=>Ze (Zb (Zl H R (XU) λa H=>ZB (v:=d) H R Qy R (at_3 I.ra0) ?_)); intro a H
 obtain ⟨k,q,J⟩:=p_1 J
 refine c_k H I R (cbm func160) (Bi _ (e.Events ++ ([(⟨h,i,j⟩ : GEvent)] : List GEvent)) d (I.sl1) k q) ?_; intro w a I H
 refine Zl H R (He) λa H=>Zk (seg:=enc k) H I Za R R R Yq (u_1 _) (YN (pre:=[[b],[vI e.Next],[c],[d]]) ck flq) (s_1 _) (Z4 (pre:=[[b],[vI e.Next],[c],[d]]) ck flq) λw a I H=>Ze (Zb (Zq H R ZF R I.ra0 cq ?_)); intro a H
 have I:=I.pl3
 refine Zk (seg:=cat [[b],[vI e.Next],[c],[d],enc k]) (cs':=cat [[b],[vI e.Next],[c],[d],enc k]) H I Za R R R ZF cq (q_1 cq cq) (ZC (cc1 (t_2 (I.sl5)) (cc1 (s_1 (e.Next : Int)) (cc1 (t_2 (I.sl6)) (cc1 (t_2 (I.sl2)) (cc1 (s_1 _) cc0)))))) (q_2 cq cq) λw a I H=>Ze ?_
 obtain rfl:=o_1 J
 have m : Yb prog _ _ (.cell 8 79) _:=ZG H R ZF R I.ra0 cq R
 have I:=((((I.pl2.pl6.pl6.pl6).drop.pl5).drop.pl4).drop.pl3).drop
 exact p_3 (ZV H R m ⟨_,R,b,c,d,R,I⟩)
def Uv (e : GVault) (f : V16) (b : Int) : Option (Fl Int (Fl Unit (GVault × Int))) :=
 if decide (b < (e.Keys.length : Int)) then (((idx e.Keys b).bind λc=>some (decide (c = f)) : Option (Bool)).bind λd=>if d then (some (Fl.ex (Fl.ex ((⟨[],0,[],[],Vector.replicate 32 (0 : UInt8)⟩ : GVault),5)))) else (some (Fl.nx (wr (b + 1))))) else (some (Fl.ex (Fl.nx ())))
def U7 (c : GVault) (d : V16) : Option (GVault × Int) :=
 (Vq c).bind λi=>if !i then (some ((⟨[],0,[],[],Vector.replicate 32 (0 : UInt8)⟩ : GVault),1)) else ((ZQ (Uv c d) 0).bind λe=>e.el (λj=>(if (c.Keys.length : Int) == 8 then (some true) else (some ((c.Events.length : Int) == 60)) : Option (Bool)).bind λf=>if f then (some ((⟨[],0,[],[],Vector.replicate 32 (0 : UInt8)⟩ : GVault),3)) else ((Vv c).bind λb=>(app 16 b.Keys ([d] : List V16)).bind λk=>(XH (⟨b.Keys ++ ([d] : List V16),b.Next,b.Records,b.Events,b.Head⟩ : GVault) 3 (c.Keys.length : Int) (Vector.replicate 32 (0 : UInt8))).bind λh=>some (h,0))) (λr=>some r))
theorem zB (n : World) (o : GVault) (b : Value) (h : Ro n o.Keys [b]) (e : Value) (x : Ro n o.Records [e]) (f : Value) (q : Ro n o.Events [f]) (A : V16) (r : GVault × Int) (J : U7 o A = some r) :
  Calls prog 62 [vcV b e f o,Value.agg (enc A).toArray].toArray n (e_r λv w'=>(∃ y1 y2 y3 : Value,v = (Value.tuple [vcV y1 y2 y3 r.1,vI r.2].toArray) ∧ Fr n w' [osl NoB (r.1.Keys : List V16) y1,osl NoB (r.1.Records : List GRecord) y2,osl NoB (r.1.Events : List GEvent) y3] ∧ Kept (Old n) n w')):=by
 refine ce func62 ?_
 intro a H
 have I:=M.start n
 unfold U7 at J
 refine Zb (Z2 (cs:=cV b e f o) H I Za ld R R λC w a I H=>Z2 (cs:=enc A) H I Za ld R R λF w a I H=>Zw H I ZF λG w a I H=>Zc H R λa H=>Ze (s_2 (Zb (Zq H R ZF R I.ra2 cq ?_)))); intro a H
 obtain ⟨r7,e8,J⟩:=p_1 J
 refine c_k H I R Zah (Kp _ o b (I.rdo h) e (I.rdo x) f (I.rdo q) r7 e8) ?_; intro w a I H
 refine JD H R λa H=>Ze ?_
 refine c_if H R J ?_ ?_
 ·intro aj J
  refine Zb (ZY (parts:=[]) (vs:=[]) (cs:=cat xa) H Za ld R R ZF Kd Yp λa H=>Zk (seg:=cat xa) (cs':=cat xa) H I Za R R R ZF cq (q_1 cq cq) (ZC (cc1 ZN (cc1 (s_1 xj) (cc1 ZN (cc1 ZN (cc1 (s_1 _) cc0)))))) (q_2 cq cq) λw a I H=>Zc H R λa H=>Ze ?_)
  have I:=M.nilS (α:=GEvent) NoB noB (M.nilS (α:=GRecord) NoB noB (M.nilS (α:=V16) NoB noB I))
  obtain rfl:=o_1 J
  have Z : Yb prog _ _ (.cell 4 79) _:=ZG H R ZF R I.ra3 cq R
  have I:=M.fst (l:=[_,_,_]) I.pl1.pl2
  exact p_3 (ZI (Xf H R Z (ZD H R) ⟨_,R,xd,xd,xd,R,I.outF (ZK (ZK (ZK Yo))),I.kept⟩))
 intro aj J
 refine u_2 (Zz (s_2 (Zb (Zc H R λa H=>Ze ?_))))
 obtain ⟨ak,aa,t⟩:=p_1 J
 refine Z7 (λa w=>∃ ab : Unit,ak = Fl.nx ab ∧ Env 52 a [(2,ptr C 0),(3,ptr F 0),(4,ptr G 0)] ∧ M (Old n) n w [raw G xi,raw F (enc A),raw C (cV b e f o)]) ?_ ?_
 ·refine p_2 ?_
  refine ZR (λ(N : Int) a w=>Env 52 a [(2,ptr C 0),(3,ptr F 0),(4,ptr G 0),(6,vI N)] ∧ M (Old n) n w [raw G xi,raw F (enc A),raw C (cV b e f o)]) aa ⟨H.s,I⟩ ?_
  rintro N a w ⟨H,I⟩ ay i K
  unfold Uv at i
  refine s_2 (Zb (Zd H R λa H=>Zl H R (XA) λa H=>ZB (v:=b) H R T0 R (at_0 I.ra2) λa H=>YE H R s_3 (I.rd h) λa H=>Zn H R R R λa H=>Ze ?_))
  refine c_if H R i ?_ ?_
  ·intro ac i
   refine u_2 (Zz (s_2 (p_2 ?_)))
   obtain ⟨al,y,m⟩:=p_1 i
   refine ZJ (λa w=>Env 52 a [(2,ptr C 0),(3,ptr F 0),(4,ptr G 0),(6,vI N),(25,vT al)] ∧ M (Old n) n w [raw G xi,raw F (enc A),raw C (cV b e f o)]) ?_ ?_
   ·obtain ⟨az,L,y⟩:=bix y
    refine Z9 [19,20,21,22,23,24,25] Yt R R (by decide) R H I (qsP (λz=>Zg z.E Za ld R (XA) (kr0 R)) (qsP (λz=>Zy (v:=b) z.E Za ld R T0 R (at_0 (z.M.ra2)) (kr0 R)) (q_m (λ_=>R) (qsP (λz=>Yu z.E Za ld R R s_3 ZE (z.M.rd h) L.1 (kr0 R)) (qsP (λz=>Zx z.E Za ld R ZE R (Xe (z.M.rd h) L.2) (u_1 _) (kr0 R)) (qsP (λz=>Zx z.E Za ld R ZE R (z.M.ra1) (u_1 _) (kr0 R)) (qsP (λz=>kR z.E Za ld R R (WJ u_3 ty5 R false R (by decide) (XZ t_3)) (by decide) (by kernel_rfl) (kr0 R)) qs0))))))) ?_
    ·intro a w u H I
     refine Zj ?_
     obtain rfl:=o_1 y
     refine Zm ?_
     exact ⟨H.s,I⟩
   rintro a w ⟨H,I⟩
   refine c_if H R m ?_ ?_
   ·intro ad m
    refine Zb (ZY (parts:=[]) (vs:=[]) (cs:=cat xa) H Za ld R R ZF Kd Yp λa H=>Zk (seg:=cat xa) (cs':=cat xa) H I Za R R R ZF cq (q_1 cq cq) (ZC (cc1 ZN (cc1 (s_1 xj) (cc1 ZN (cc1 ZN (cc1 (s_1 _) cc0)))))) (q_2 cq cq) λw a I H=>Zc H R λa H=>Ze ?_)
    have I:=M.nilS (α:=GEvent) NoB noB (M.nilS (α:=GRecord) NoB noB (M.nilS (α:=V16) NoB noB I))
    obtain rfl:=K _ (ois m)
    obtain rfl:=o_1 t
    have ae : Yb prog _ _ (.cell 4 79) _:=ZG H R ZF R I.ra3 cq R
    have I:=M.fst (l:=[_,_,_]) I.pl1.pl2
    exact p_3 (Xl (ZI (ZI (Xl (ZI (ZI (Xf H R ae (ZD H R) ⟨_,R,xd,xd,xd,R,I.outF (ZK (ZK (ZK Yo))),I.kept⟩)))))))
   intro ad m
   refine u_2 (YA (Zz (t_1 (Zd H R λa H=>Zn H R R R λa H=>Zc H R λa H=>Zj (Zm ?_)))))
   exact ⟨_,ois m,H.s,I⟩
  intro ac i
  refine o_4 (Zu (Zu (YQ ?_)))
  obtain rfl:=K _ (ois i)
  refine Zm ?_
  exact ⟨(),R,H.s,I⟩
 rintro a w ⟨ab,ht,H,I⟩
 subst ht
 have t:=Kv t
 refine Zz (s_2 ?_)
 obtain ⟨am,j,d⟩:=p_1 t
 refine ZJ (λa w=>Env 52 a [(2,ptr C 0),(3,ptr F 0),(4,ptr G 0),(36,vT am)] ∧ M (Old n) n w [raw G xi,raw F (enc A),raw C (cV b e f o)]) ?_ ?_
 ·refine t_1 (Zl H R (XA) λa H=>ZB (v:=b) H R T0 R (at_0 I.ra2) λa H=>YE H R s_3 (I.rd h) λa H=>Zn H R R R λa H=>Zd H R ?_); intro a H
  refine Ys ((o.Keys.length : Int) == 8) (λc=>?_) (λc=>?_)
  ·have j:=Zt j c
   refine k_s H c R R R λa H=>k_s H c R R R λa H=>k_s H c R R R λa H=>k_s H c R R R λa H=>ZU H (lkb R c) R λa H=>Zj ?_
   obtain rfl:=o_1 j
   refine Zm ?_
   exact ⟨H.s,I⟩
  have j:=Zs j c
  refine Zg H (Zi H R (lkb R c)) (by decide) R (XU) λa H=>Zy (v:=f) H (Zi H R (lkb R c)) (by decide) R Qy R (at_3 I.ra2) λa H=>WE H (Zi H R (lkb R c)) (by decide) R p_4 (I.rd q) λa H=>Z8 H (Zi H R (lkb R c)) (by decide) R R R λa H=>Ye H (lkb R c) R λa H=>Zj ?_
  obtain rfl:=o_1 j
  refine Zm ?_
  exact ⟨H.s,I⟩
 rintro a w ⟨H,I⟩
 refine c_if H R d ?_ ?_
 ·intro af d
  refine Zb (ZY (parts:=[]) (vs:=[]) (cs:=cat xa) H Za ld R R ZF Kd Yp λa H=>Zk (seg:=cat xa) (cs':=cat xa) H I Za R R R ZF cq (q_1 cq cq) (ZC (cc1 ZN (cc1 (s_1 xj) (cc1 ZN (cc1 ZN (cc1 (s_1 _) cc0)))))) (q_2 cq cq) λw a I H=>Zc H R λa H=>Ze ?_)
  have I:=M.nilS (α:=GEvent) NoB noB (M.nilS (α:=GRecord) NoB noB (M.nilS (α:=V16) NoB noB I))
  obtain rfl:=o_1 d
  have ag : Yb prog _ _ (.cell 4 79) _:=ZG H R ZF R I.ra3 cq R
  have I:=M.fst (l:=[_,_,_]) I.pl1.pl2
  exact p_3 (ZI (Xf H R ag (ZD H R) ⟨_,R,xd,xd,xd,R,I.outF (ZK (ZK (ZK Yo))),I.kept⟩))
 intro af d
 refine u_2 (Zz (Zb (Zq H R ZF R I.ra2 cq ?_))); intro a H
 obtain ⟨k,an,d⟩:=p_1 d
 refine Zp H R Zdr (KP _ o b (I.rdo h) e (I.rdo x) f (I.rdo q) k an) ?_
 rintro v w a ⟨O,T,U,rfl,hFr,hK⟩ H
 have I:=I.add hK hFr
 refine Zw H I ZF λa0 w a I H=>Zk (seg:=cV O T U k) (cs':=cV O T U k) H I Za R R R ZF cq (q_1 cq cq) (ZC (cc1 (t_2 (I.sl1)) (cc1 (s_1 (k.Next : Int)) (cc1 (t_2 (I.sl2)) (cc1 (t_2 (I.sl3)) (cc1 (s_1 _) cc0)))))) (q_2 cq cq) λw a I H=>Ze (Zb (Zl H R (XA) λa H=>ZB (v:=O) H R T0 R (at_0 I.ra0) λa H=>Zq H R ZE R I.ra5 (u_1 _) λa H=>ZL (xs:=[.tmp 42]) (l:=([A] : List V16)) (vs:=[Value.agg (enc A).toArray]) H I Za ld R R s_3 ZE R (by decide) R ?_)); intro a1 w a I H
 obtain ⟨a2,ao,d⟩:=p_1 d
 obtain ⟨ap,rfl⟩:=Z1 ao
 have I:=I.pl2
 refine Z3 H I Za ld R R (I.sl1) s_3 ZE R (by decide) ap λah w a I H=>Zl H R (XA) ?_; intro a H
 have I:=I.pl2
 refine Zk (seg:=[ah]) H I Za R R (ZX (I.sl1)) T0 R (YN (pre:=[]) cl0 R) (t_2 (I.sl1)) (Z4 (pre:=[]) cl0 R) λw a I H=>Ze (Zb (Zq H R ZF R I.ra0 cq λa H=>Zl H R (XA) λa H=>ZB (v:=b) H R T0 R (at_0 I.ra7) λa H=>YE H R s_3 (I.rd h) λa H=>XT (parts:=[]) (vs:=[]) (cs:=enc xc) H Za ld R R Yq R ty5 Xj ?_)); intro a H
 have I:=I.pl4.pl4.pl3
 have hM0:=I
 obtain ⟨B,aq,d⟩:=p_1 d
 refine Zp H R Zea (Kw _ _ _ _ (⟨k.Keys ++ ([A] : List V16),k.Next,k.Records,k.Events,k.Head⟩ : GVault) ah T U 3 (o.Keys.length : Int) xc I B aq) ?_
 rintro v w a ⟨W,X,Y,rfl,I⟩ H
 have I:=I.pl5
 refine Zk (seg:=cV W X Y B) (cs':=cV W X Y B) H I Za R R R ZF cq (q_1 cq cq) (ZC (cc1 (t_2 (I.sl1)) (cc1 (s_1 (B.Next : Int)) (cc1 (t_2 (I.sl2)) (cc1 (t_2 (I.sl3)) (cc1 (s_1 _) cc0)))))) (q_2 cq cq) λw a I H=>Zc H R λa H=>Ze ?_
 obtain rfl:=o_1 d
 have ai : Yb prog _ _ (.cell 4 79) _:=ZG H R ZF R I.ra0 cq R
 have I:=M.fst (l:=[_,_,_]) I.pl3.pl3.pl3
 exact p_3 (Xf H R ai (ZD H R) ⟨_,R,W,X,Y,R,I.outF (ZK (ZK (ZK Yo))),I.kept⟩)
def Qw (d : GVault) (e : Int) (b : Int) : Option (Fl Int (Fl Unit Int)) :=
 if decide (b < (d.Records.length : Int)) then ((idx d.Records b).bind λc=>if c.Number == e then (some (Fl.ex (Fl.ex b))) else (some (Fl.nx (wr (b + 1))))) else (some (Fl.ex (Fl.nx ())))
def Ve (b : GVault) (c : Int) : Option (Int) :=
 (ZQ (Qw b c) 0).bind λd=>d.el (λe=>some (-1)) (λr=>some r)
theorem K6 (i : World) (j : GVault) (c : Value) (u : Ro i j.Keys [c]) (d : Value) (e : Ro i j.Records [d]) (f : Value) (x : Ro i j.Events [f]) (y : Int) (r : Int) (J : Ve j y = some r) :
  Calls prog 163 [vcV c d f j,vI y].toArray i (Rt i (vI r)):=by
 refine ce func163 ?_
 intro a H
 have I:=M.start i
 unfold Ve at J
 refine Zb (Z2 (cs:=cV c d f j) H I Za ld R R λB w a I H=>Zc H R λa H=>Ze (s_2 (Zb (Zc H R λa H=>Ze ?_))))
 obtain ⟨G,z,k⟩:=p_1 J
 refine Z7 (λa w=>∃ C : Unit,G = Fl.nx C ∧ Env 22 a [] ∧ M (Old i) i w []) ?_ ?_
 ·refine p_2 ?_
  refine ZR (λ(E : Int) a w=>Env 22 a [(1,vI y),(2,ptr B 0),(5,vI E)] ∧ M (Old i) i w [raw B (cV c d f j)]) z ⟨H.s,I⟩ ?_
  rintro E a w ⟨H,I⟩ K b m
  unfold Qw at b
  refine s_2 (Zb (Zd H R λa H=>Zl H R (Yn) λa H=>ZB (v:=d) H R XO R (at_2 I.ra0) λa H=>YE H R o_3 (I.rd e) λa H=>Zn H R R R λa H=>Ze ?_))
  refine c_if H R b ?_ ?_
  ·intro n b
   refine u_2 (Zz (s_2 (p_2 (Zb (Zl H R (Yn) λa H=>ZB (v:=d) H R XO R (at_2 I.ra0) λa H=>Zd H R ?_))))); intro a H
   obtain ⟨A,h,b⟩:=bix b
   refine YG H R R o_3 Yf (I.rd e) h.1 λa H=>Zl H R (VS) ?_; intro a H
   obtain ⟨F,o,q⟩:=Wj e h.2 -- ^
   obtain ⟨L,N,rfl,O,T⟩:=YV o -- ^
   refine ZB (v:=(vI A.Number)) H R ty2 R (at_0 (I.atk q (VZ e h.2))) λa H=>Zd H R λa H=>Zn H R R R λa H=>Ze ?_
   refine c_if H R b ?_ ?_
   ·intro t b
    refine Zb (Zd H R λa H=>Zc H R λa H=>Ze ?_)
    obtain rfl:=m _ (ois b)
    obtain rfl:=o_1 k
    exact p_3 (Xl (ZI (ZI (Xl (ZI (ZI (kr1 H R R I.kept)))))))
   intro t b
   refine u_2 (YA (Zz (t_1 (Zd H R λa H=>Zn H R R R λa H=>Zc H R λa H=>Zj (Zm ?_)))))
   exact ⟨_,ois b,H.s,I⟩
  intro n b
  refine o_4 (Zu (Zu (YQ ?_)))
  obtain rfl:=m _ (ois b)
  refine Zm ?_
  have I:=M.fst (l:=[]) I
  exact ⟨(),R,H.sub trivial,I⟩
 rintro a w ⟨C,ht,H,I⟩
 subst ht
 have k:=Kv k
 refine Zz (Zb (Zc H R λa H=>Ze ?_))
 obtain rfl:=o_1 k
 exact p_3 (kr1 H R R I.kept)
def Ut (f : GVault) (j : Int) : Option (GVault × Int) :=
 (Vq f).bind λk=>if !k then (some ((⟨[],0,[],[],Vector.replicate 32 (0 : UInt8)⟩ : GVault),1)) else ((Ve f j).bind λc=>if decide (c < 0) then (some ((⟨[],0,[],[],Vector.replicate 32 (0 : UInt8)⟩ : GVault),4)) else (if (f.Events.length : Int) == 60 then (some ((⟨[],0,[],[],Vector.replicate 32 (0 : UInt8)⟩ : GVault),3)) else ((Vv f).bind λb=>((Wo ((wr (c + 1)) - c)).bind λ_=>(slc b.Records (0 : Int) c).bind λd=>(app 112 ([] : List GRecord) d).bind λl=>(slc b.Records (wr (c + 1)) (b.Records.length : Int)).bind λe=>(app 112 (([] : List GRecord) ++ d) e).bind λm=>some ((([] : List GRecord) ++ d) ++ e) : Option ((List GRecord))).bind λh=>(XH (⟨b.Keys,b.Next,h,b.Events,b.Head⟩ : GVault) 2 j (Vector.replicate 32 (0 : UInt8))).bind λi=>some (i,0))))
theorem Ay (B : World) (x : GVault) (e : Value) (n : Ro B x.Keys [e]) (f : Value) (o : Ro B x.Records [f]) (h : Value) (m : Ro B x.Events [h]) (p1 : Int) (r : GVault × Int) (J : Ut x p1 = some r) :
  Calls prog 59 [vcV e f h x,vI p1].toArray B (e_r λv w'=>(∃ y1 y2 y3 : Value,v = (Value.tuple [vcV y1 y2 y3 r.1,vI r.2].toArray) ∧ Fr B w' [osl NoB (r.1.Keys : List V16) y1,osl NoB (r.1.Records : List GRecord) y2,osl NoB (r.1.Events : List GEvent) y3] ∧ Kept (Old B) B w')):=by
 refine ce func59 ?_
 intro a H
 have I:=M.start B
 unfold Ut at J
 refine Zb (Z2 (cs:=cV e f h x) H I Za ld R R λb1 w a I H=>Zw H I ZF λb3 w a I H=>Zc H R λa H=>Ze (s_2 (Zb (Zq H R ZF R I.ra1 cq ?_)))); intro a H
 obtain ⟨r5,e6,J⟩:=p_1 J
 refine c_k H I R Zah (Kp _ x e (I.rdo n) f (I.rdo o) h (I.rdo m) r5 e6) ?_; intro w a I H
 refine JD H R λa H=>Ze ?_
 refine c_if H R J ?_ ?_
 ·intro ao J
  refine Zb (ZY (parts:=[]) (vs:=[]) (cs:=cat xa) H Za ld R R ZF Kd Yp λa H=>Zk (seg:=cat xa) (cs':=cat xa) H I Za R R R ZF cq (q_1 cq cq) (ZC (cc1 ZN (cc1 (s_1 xj) (cc1 ZN (cc1 ZN (cc1 (s_1 _) cc0)))))) (q_2 cq cq) λw a I H=>Zc H R λa H=>Ze ?_)
  have I:=M.nilS (α:=GEvent) NoB noB (M.nilS (α:=GRecord) NoB noB (M.nilS (α:=V16) NoB noB I))
  obtain rfl:=o_1 J
  have ac : Yb prog _ _ (.cell 4 79) _:=ZG H R ZF R I.ra3 cq R
  have I:=M.fst (l:=[_,_,_]) I.pl1.pl2
  exact p_3 (ZI (Xf H R ac (ZD H R) ⟨_,R,xd,xd,xd,R,I.outF (ZK (ZK (ZK Yo))),I.kept⟩))
 intro ao J
 refine u_2 (Zz (Zb (Zq H R ZF R I.ra1 cq λa H=>Zd H R ?_))); intro a H
 obtain ⟨ad,ap,J⟩:=p_1 J
 refine c_k H I R Zhk (K6 _ x e (I.rdo n) f (I.rdo o) h (I.rdo m) p1 ad ap) ?_; intro w a I H
 refine Zc H R λa H=>Ze (s_2 (Zb (Zd H R λa H=>Zn H R R R λa H=>Ze ?_)))
 refine c_if H R J ?_ ?_
 ·intro ae J
  refine Zb (ZY (parts:=[]) (vs:=[]) (cs:=cat xa) H Za ld R R ZF Kd Yp λa H=>Zk (seg:=cat xa) (cs':=cat xa) H I Za R R R ZF cq (q_1 cq cq) (ZC (cc1 ZN (cc1 (s_1 xj) (cc1 ZN (cc1 ZN (cc1 (s_1 _) cc0)))))) (q_2 cq cq) λw a I H=>Zc H R λa H=>Ze ?_)
  have I:=M.nilS (α:=GEvent) NoB noB (M.nilS (α:=GRecord) NoB noB (M.nilS (α:=V16) NoB noB I))
  obtain rfl:=o_1 J
  have af : Yb prog _ _ (.cell 4 79) _:=ZG H R ZF R I.ra3 cq R
  have I:=M.fst (l:=[_,_,_]) I.pl1.pl2
  exact p_3 (ZI (Xf H R af (ZD H R) ⟨_,R,xd,xd,xd,R,I.outF (ZK (ZK (ZK Yo))),I.kept⟩))
 intro ae J
 refine u_2 (Zz (s_2 (Zb (Zl H R (XU) λa H=>ZB (v:=h) H R Qy R (at_3 I.ra1) λa H=>YE H R p_4 (I.rd m) λa H=>Zn H R R R λa H=>Ze ?_))))
 refine c_if H R J ?_ ?_
 ·intro ag J
  refine Zb (ZY (parts:=[]) (vs:=[]) (cs:=cat xa) H Za ld R R ZF Kd Yp λa H=>Zk (seg:=cat xa) (cs':=cat xa) H I Za R R R ZF cq (q_1 cq cq) (ZC (cc1 ZN (cc1 (s_1 xj) (cc1 ZN (cc1 ZN (cc1 (s_1 _) cc0)))))) (q_2 cq cq) λw a I H=>Zc H R λa H=>Ze ?_)
  have I:=M.nilS (α:=GEvent) NoB noB (M.nilS (α:=GRecord) NoB noB (M.nilS (α:=V16) NoB noB I))
  obtain rfl:=o_1 J
  have ah : Yb prog _ _ (.cell 4 79) _:=ZG H R ZF R I.ra3 cq R
  have I:=M.fst (l:=[_,_,_]) I.pl1.pl2
  exact p_3 (ZI (Xf H R ah (ZD H R) ⟨_,R,xd,xd,xd,R,I.outF (ZK (ZK (ZK Yo))),I.kept⟩))
 intro ag J
 refine u_2 (Zz (Zb (Zq H R ZF R I.ra1 cq ?_))); intro a H
 obtain ⟨b,aq,J⟩:=p_1 J
 refine Zp H R Zdr (KP _ x e (I.rdo n) f (I.rdo o) h (I.rdo m) b aq) ?_
 rintro v w a ⟨i,t,q,rfl,hFr,hK⟩ H
 have I:=I.add hK hFr
 refine Zw H I ZF λO w a I H=>Zk (seg:=cV i t q b) (cs':=cV i t q b) H I Za R R R ZF cq (q_1 cq cq) (ZC (cc1 (t_2 (I.sl1)) (cc1 (s_1 (b.Next : Int)) (cc1 (t_2 (I.sl2)) (cc1 (t_2 (I.sl3)) (cc1 (s_1 _) cc0)))))) (q_2 cq cq) λw a I H=>Ze ?_
 obtain ⟨ai,d,y⟩:=p_1 J
 refine ZJ (λa w=>∃ C : Value,Env 42 a [(1,vI p1),(4,ptr b3 0),(7,ptr O 0)] ∧ M (Old B) B w [raw O (cV i C q b),osl NoB (b.Keys : List V16) i,osl NoB (b.Events : List GEvent) q,raw b3 xi,osl NoB (ai : List GRecord) C]) ?_ ?_
 ·have I:=I.pl2
  obtain ⟨K,L,I⟩:=I.toHdr noB
  obtain ⟨_,A,d⟩:=p_1 d
  have A:=Vt A
  obtain ⟨a2,d_l43,d⟩:=p_1 d
  obtain ⟨h_l43,T,q_l43⟩:=Za3 d_l43 L
  obtain ⟨a3,ar,d⟩:=p_1 d
  obtain ⟨a4,d_l50,d⟩:=p_1 d
  obtain ⟨h_l50,U,q_l50⟩:=Zgn d_l50 L
  refine Yl (its:=[osl NoB (K : List (Opq 52)) t,els NoB b.Records K,raw O (cV i t q b),osl NoB (b.Keys : List V16) i,osl NoB (b.Events : List GEvent) q,raw b3 xi,raw b1 (cV e f h x)]) (mk:=([mkN [(5,λv=>osl NoB ((([] : List (Opq 52)) ++ h_l43) : List (Opq 52)) v),(0,λv=>osl NoB (([] : List (Opq 52)) : List (Opq 52)) v)]] : Mk)) [25,26,27,28,29,30,31,32,33,34,35] Yt R R (by decide) R H (λu=>M.qE (M.q0 I.drew u) emN) (qsM (pr:=λv=>True) ?_ (qsP (λz=>Zg z.E Za ld R (Yn) (kr0 R)) (qsP (λz=>Zy (v:=t) z.E Za ld R XO R (at_2 (z.M.ra2)) (kr0 R)) (q_m (λ_=>R) (qsP (λz=>QZ z.E Za ld R R (zm R) R R o_3 Yf (z.M.sl0) T (kr0 R)) (qsM (pr:=λv=>True) ?_ (qsP (λz=>Zg z.E Za ld R (Yn) (kr0 R)) (qsP (λz=>Zy (v:=t) z.E Za ld R XO R (at_2 (z.M.ra2)) (kr0 R)) (q_m (λ_=>R) (qsP (v:=(vI (wr (ad + 1)))) (λz=>Z8 z.E Za ld R R R (kr0 R)) (qsP (λz=>QZ z.E Za ld R (zm R) R R R o_3 Yf (z.M.sl0) U (kr0 R)) qs0))))))))))) ?_
  ·intro a w N D z
   have H:=z.E
   have hD : D 0 = false:=z.F
   have I:=z.M
   refine ZL (xs:=[]) (l:=([] : List (Opq 52))) (vs:=[]) H I Za ld R R o_3 Yf R (by decide) R ?_; intro a5 w a I H
   have aj : D 5 = false:=WH (j:=5) (k:=0) z.c R R R hD
   exact ⟨_,_,R,H,M.qPut (mk1:=[]) (mk2:=[]) I R (Bp (HH aj (HH hD HK))) (K7 (l:=[_]) (HH aj HK)),trivial⟩
  ·intro a w N D z
   have H:=z.E
   have hD : D 5 = false:=z.F
   have d0 : D 0 = true:=z.p 0 _ R R
   have I:=(z.M.chnF (pre:=[_,_,_,_,_,_,_]) hD).chnT (pre:=[_,_,_,_,_,_,_]) d0
   obtain ⟨W,rfl⟩:=Z1 ar
   have W : (([] : List (Opq 52)).length + h_l43.length) * 112 ≤ 140737488355328:=by simpa [q_l43,q_l50] using W
   have I:=I.pl7
   exact Z3 H I Za ld R R (Xh (I.sl1) T) o_3 Yf R (by decide) W λa7 w a I H=>⟨_,_,R,H,M.qTogS (mk1:=[]) (mk2:=[]) I R (K7 (l:=[]) HK),trivial⟩
  intro a w N D H I hG ak
  have d5:=ak 5 (by decide)
  have I:=I.chnT (pre:=[_,_,_,_,_,_,_]) d5
  obtain ⟨a9,au,d⟩:=p_1 d
  obtain ⟨X,rfl⟩:=Z1 au
  have X : ((([] : List (Opq 52)) ++ h_l43).length + h_l50.length) * 112 ≤ 140737488355328:=by simpa [q_l43,q_l50] using X
  have I:=I.pl7
  refine Z3 H I Za ld R R (Xh (I.sl1) U) o_3 Yf R (by decide) X λal w a I H=>Zl H R (Yn) ?_; intro a H
  have I:=I.pl3
  refine Zk (seg:=[al]) H I Za R R (ZX (I.sl1)) XO R (YN (pre:=[[i],[vI b.Next]]) ck R) (t_2 (I.sl1)) (Z4 (pre:=[[i],[vI b.Next]]) ck R) ?_; intro w a I H
  have I:=M.ofHdr (α:=GRecord) ((I.pl3.cutEls noB d_l43 d_l50 T U (Int.sub_nonneg.1 A)).pl2) noB
  refine Zj ?_
  obtain rfl:=o_1 d
  refine Zm ?_
  have I:=M.fst (l:=[_,_,_,_,_]) I.pl5.pl5.pl5.pl4
  exact ⟨al,H.s,I⟩
 rintro a w ⟨C,H,I⟩
 refine Zb (Zq H R ZF R I.ra0 cq λa H=>Zd H R λa H=>XT (parts:=[]) (vs:=[]) (cs:=enc xc) H Za ld R R Yq R ty5 Xj ?_); intro a H
 have I:=I.pl2.pl4.pl3
 have hM0:=I
 obtain ⟨G,av,y⟩:=p_1 y
 refine Zp H R Zea (Kw _ _ _ _ (⟨b.Keys,b.Next,ai,b.Events,b.Head⟩ : GVault) i C q 2 p1 xc I G av) ?_
 rintro v w a ⟨Y,Z,aa,rfl,I⟩ H
 have I:=I.pl4
 refine Zk (seg:=cV Y Z aa G) (cs':=cV Y Z aa G) H I Za R R R ZF cq (q_1 cq cq) (ZC (cc1 (t_2 (I.sl1)) (cc1 (s_1 (G.Next : Int)) (cc1 (t_2 (I.sl2)) (cc1 (t_2 (I.sl3)) (cc1 (s_1 _) cc0)))))) (q_2 cq cq) λw a I H=>Zc H R λa H=>Ze ?_
 obtain rfl:=o_1 y
 have am : Yb prog _ _ (.cell 4 79) _:=ZG H R ZF R I.ra0 cq R
 have I:=M.fst (l:=[_,_,_]) I.pl3.pl3.pl3
 exact p_3 (Xf H R am (ZD H R) ⟨_,R,Y,Z,aa,R,I.outF (ZK (ZK (ZK Yo))),I.kept⟩)
def QT (e : (List V16)) (f : (List UInt8) × Int) (b : (List UInt8) × Int) : Option (Fl ((List UInt8) × Int) (List UInt8)) :=
 if decide (b.2 < 16) then ((idx e f.2).bind λd=>(ZZ d b.2).bind λc=>(app 1 b.1 ([c] : List UInt8)).bind λh=>some (Fl.nx ((b.1 ++ ([c] : List UInt8)),wr (b.2 + 1)))) else (some (Fl.ex b.1))
def Ub (d : (List V16)) (b : (List UInt8) × Int) : Option (Fl ((List UInt8) × Int) (List UInt8)) :=
 if decide (b.2 < (d.length : Int)) then ((ZQ (QT d b) (b.1,0)).bind λc=>some (Fl.nx (c,wr (b.2 + 1)))) else (some (Fl.ex b.1))
def WV (b : (List V16)) : Option ((List UInt8)) :=
 (ZQ (Ub b) (([] : List UInt8),0)).bind λc=>some c
theorem HU (f : World) (N : xv) (d : Value) (e : Ro f N [d]) (r : xg) (J : WV N = some r) :
  Calls prog 245 [d].toArray f (e_r λv w'=>(∃ O : Value,v = O ∧ Fr f w' [osl NoB (r : List UInt8) O] ∧ Kept (Old f) f w')):=by
 refine ce func245 ?_
 intro a H
 have I:=M.start f
 unfold WV at J
 refine Zb (Zc H R λa H=>Ze (Zb (ZL (xs:=[]) (l:=xx) (vs:=[]) H I Za ld R R o_2 ty5 R (by decide) R λT w a I H=>Zc H R λa H=>Ze (s_2 (Zb (Zc H R λa H=>Ze ?_))))))
 obtain ⟨U,C,E⟩:=p_1 J
 refine Z7 (λa w=>∃ B : Value,Env 27 a [(3,B)] ∧ M (Old f) f w [osl NoB (U : List UInt8) B]) ?_ ?_
 ·refine p_2 ?_
  refine ZR (λ(o : xg × Int) a w=>∃ q : Value,Env 27 a [(0,d),(3,q),(4,vI o.2)] ∧ M (Old f) f w [osl NoB (o.1 : List UInt8) q]) C ⟨T,H.s,I⟩ ?_
  rintro o a w ⟨q,H,I⟩ W c t
  unfold Ub at c
  refine s_2 (Zb (Zd H R λa H=>Zd H R λa H=>YE H R s_3 (I.rd e) λa H=>Zn H R R R λa H=>Ze ?_))
  refine c_if H R c ?_ ?_
  ·intro u c
   refine u_2 (Zz (s_2 (p_2 (Zb (Zc H R λa H=>Ze ?_)))))
   obtain ⟨F,x,y⟩:=p_1 c
   refine Z7 (λa w=>∃ h : Value,Env 27 a [(0,d),(3,h),(4,vI o.2)] ∧ M (Old f) f w [osl NoB (F : List UInt8) h]) ?_ ?_
   ·refine p_2 ?_
    refine ZR (λ(m : xg × Int) a w=>∃ i : Value,Env 27 a [(0,d),(3,i),(4,vI o.2),(5,vI m.2)] ∧ M (Old f) f w [osl NoB (m.1 : List UInt8) i]) x ⟨q,H.s,I⟩ ?_
    rintro m a w ⟨i,H,I⟩ X b z
    unfold QT at b
    refine s_2 (Zb (Zd H R λa H=>Zn H R R R λa H=>Ze ?_))
    refine c_if H R b ?_ ?_
    ·intro A b
     refine u_2 (Zz (s_2 (p_2 (t_1 (Zd H R λa H=>Zd H R λa H=>Zd H R λa H=>Zd H R ?_))))); intro a H
     obtain ⟨Y,j,b⟩:=bix b
     refine YG H R R s_3 ZE (I.rd e) j.1 ?_; intro a H
     obtain ⟨n,k,b⟩:=bvx b
     refine ZO H R R u_3 ty5 k.1 λa H=>ZB (v:=(vB n)) H R ty5 R (At.vec (Xe (I.rd e) j.2) k.2) λa H=>ZL (xs:=[.tmp 23]) (l:=([n] : List UInt8)) (vs:=[vB n]) H I Za ld R R o_2 ty5 R (by decide) R ?_; intro Z w a I H
     obtain ⟨aa,G,b⟩:=p_1 b
     obtain ⟨K,rfl⟩:=Z1 G
     have I:=I.pl1
     refine Z3 H I Za ld R R (I.sl1) o_2 ty5 R (by decide) K λL w a I H=>Zc H R λa H=>Zj (YA (Zz (t_1 (Zd H R λa H=>Zn H R R R λa H=>Zc H R λa H=>Zj (Zm ?_)))))
     have I:=M.fst (l:=[_]) I
     exact ⟨_,ois b,L,H.s,I⟩
    intro A b
    refine o_4 (Zu (Zu (YQ ?_)))
    obtain rfl:=z _ (ois b)
    refine Zm ?_
    exact ⟨i,H.s,I⟩
   rintro a w ⟨h,H,I⟩
   refine YA (Zz (t_1 (Zd H R λa H=>Zn H R R R λa H=>Zc H R λa H=>Zj (Zm ?_))))
   exact ⟨_,ois y,h,H.s,I⟩
  intro u c
  refine o_4 (Zu (Zu (YQ ?_)))
  obtain rfl:=t _ (ois c)
  refine Zm ?_
  exact ⟨q,H.s,I⟩
 rintro a w ⟨B,H,I⟩
 refine Zz (Zb (Zd H R λa H=>Zc H R λa H=>Ze ?_))
 obtain rfl:=o_1 E
 exact p_3 (ZV H R (ZD H R) ⟨_,R,B,R,I.outF (ZK Yo),I.kept⟩)
def Th (d : UInt8) (b : V16 × Int) : Option (Fl (V16 × Int) V16) :=
 if decide (b.2 < 16) then ((ZZ b.1 b.2).bind λc=>(ZZ b.1 b.2).bind λe=>some (Fl.nx ((b.1.setIfInBounds (b.2).toNat (c ^^^ d)),wr (b.2 + 1)))) else (some (Fl.ex b.1))
def Ui (b : V16) (c : UInt8) : Option (V16) :=
 (ZQ (Th c) (b,0)).bind λd=>some d
theorem As (h : World) (o : V16) (e : UInt8) (r : V16) (J : Ui o e = some r) :
  Calls prog 247 [Value.agg (enc o).toArray,vB e].toArray h (Rt h (Value.agg (enc r).toArray)):=by
 refine ce func247 ?_
 intro a H
 have I:=M.start h
 unfold Ui at J
 refine Zb (Z2 (cs:=enc o) H I Za ld R R λm w a I H=>Zw H I ZE λn w a I H=>Ze (s_2 (Zb (Zc H R λa H=>Ze ?_))))
 obtain ⟨q,t,u⟩:=p_1 J
 refine Z7 (λa w=>Env 18 a [(2,ptr m 0),(4,ptr n 0)] ∧ M (Old h) h w [raw n xp,raw m (enc q)]) ?_ ?_
 ·refine p_2 ?_
  refine ZR (λ(i : V16 × Int) a w=>Env 18 a [(1,vB e),(2,ptr m 0),(4,ptr n 0),(5,vI i.2)] ∧ M (Old h) h w [raw n xp,raw m (enc i.1)]) t ⟨H.s,I⟩ ?_
  rintro i a w ⟨H,I⟩ y b j
  unfold Th at b
  refine s_2 (Zb (Zd H R λa H=>Zn H R R R λa H=>Ze ?_))
  refine c_if H R b ?_ ?_
  ·intro k b
   refine u_2 (Zz (s_2 (p_2 (t_1 (Zd H R λa H=>Zd H R ?_))))); intro a H
   obtain ⟨c,f,b⟩:=bvx b
   refine ZO H R R u_3 ty5 f.1 λa H=>ZB (v:=(vB c)) H R ty5 R (At.vec I.ra1 f.2) λa H=>Zd H R λa H=>Zn H R R (Vs c e) ?_; intro a H
   obtain ⟨z,d,b⟩:=bvx b
   refine ZO H R R u_3 ty5 d.1 ?_; intro a H
   have I:=I.pl1
   refine Zk (seg:=[vB (c ^^^ e)]) (cs':=enc (i.1.setIfInBounds (i.2).toNat (c ^^^ e))) H I Za R R R ty5 R (Ya (v:=i.1) (x:=c ^^^ e) d.1) (s_1 (c ^^^ e : UInt8)) (ZP (v:=i.1) (x:=c ^^^ e) d.1) λw a I H=>Zj (YA (Zz (t_1 (Zd H R λa H=>Zn H R R R λa H=>Zc H R λa H=>Zj (Zm ?_)))))
   have I:=I.pl1
   exact ⟨_,ois b,H.s,I⟩
  intro k b
  refine o_4 (Zu (Zu (YQ ?_)))
  obtain rfl:=j _ (ois b)
  refine Zm ?_
  exact ⟨H.s,I⟩
 rintro a w ⟨H,I⟩
 refine Zz (Zb (Zq H R ZE R I.ra1 (u_1 _) λa H=>Zk (seg:=enc q) (cs':=enc q) H I Za R R R ZE (u_1 _) (zle flq) (s_1 _) (Zh flq) λw a I H=>Ze ?_))
 obtain rfl:=o_1 u
 have l : Yb prog _ _ (.cell 4 53) _:=ZG H R ZE R I.ra0 (u_1 _) R
 exact p_3 (ZV H R l ⟨_,R,R,I.kept⟩)
def TV (e : V16) (d : UInt8) (b : (List UInt8) × Int) : Option (Fl ((List UInt8) × Int) (List UInt8)) :=
 if decide (b.2 < 16) then ((ZZ e b.2).bind λc=>(app 1 b.1 ([c ^^^ d] : List UInt8)).bind λf=>some (Fl.nx ((b.1 ++ ([c ^^^ d] : List UInt8)),wr (b.2 + 1)))) else (some (Fl.ex b.1))
def VC (b : V16) (c : UInt8) : Option ((List UInt8)) :=
 (ZQ (TV b c) (([] : List UInt8),0)).bind λd=>some d
theorem J0 (c : World) (m : V16) (i : UInt8) (r : xg) (J : VC m i = some r) :
  Calls prog 306 [Value.agg (enc m).toArray,vB i].toArray c (e_r λv w'=>(∃ x : Value,v = x ∧ Fr c w' [osl NoB (r : List UInt8) x] ∧ Kept (Old c) c w')):=by
 refine ce func306 ?_
 intro a H
 have I:=M.start c
 unfold VC at J
 refine Zb (Z2 (cs:=enc m) H I Za ld R R λy w a I H=>Zc H R λa H=>Ze (Zb (ZL (xs:=[]) (l:=xx) (vs:=[]) H I Za ld R R o_2 ty5 R (by decide) R λz w a I H=>Zc H R λa H=>Ze (s_2 (Zb (Zc H R λa H=>Ze ?_))))))
 obtain ⟨A,n,o⟩:=p_1 J
 refine Z7 (λa w=>∃ u8 : Value,Env 21 a [(5,u8)] ∧ M (Old c) c w [osl NoB (A : List UInt8) u8]) ?_ ?_
 ·refine p_2 ?_
  have I:=I.pl1
  refine ZR (λ(h : xg × Int) a w=>∃ d : Value,Env 21 a [(1,vB i),(2,ptr y 0),(5,d),(6,vI h.2)] ∧ M (Old c) c w [raw y (enc m),osl NoB (h.1 : List UInt8) d]) n ⟨z,H.s,I⟩ ?_
  rintro h a w ⟨d,H,I⟩ B b j
  unfold TV at b
  refine s_2 (Zb (Zd H R λa H=>Zn H R R R λa H=>Ze ?_))
  refine c_if H R b ?_ ?_
  ·intro k b
   refine u_2 (Zz (s_2 (p_2 (t_1 (Zd H R λa H=>Zd H R ?_))))); intro a H
   obtain ⟨e,f,b⟩:=bvx b
   refine ZO H R R u_3 ty5 f.1 λa H=>ZB (v:=(vB e)) H R ty5 R (At.vec I.ra0 f.2) λa H=>Zd H R λa H=>Zn H R R (Vs e i) λa H=>ZL (xs:=[.tmp 17]) (l:=([e ^^^ i] : List UInt8)) (vs:=[vB (e ^^^ i)]) H I Za ld R R o_2 ty5 R (by decide) R ?_; intro C w a I H
   obtain ⟨E,q,b⟩:=p_1 b
   obtain ⟨t,rfl⟩:=Z1 q
   have I:=I.pl2
   refine Z3 H I Za ld R R (I.sl1) o_2 ty5 R (by decide) t λu w a I H=>Zc H R λa H=>Zj (YA (Zz (t_1 (Zd H R λa H=>Zn H R R R λa H=>Zc H R λa H=>Zj (Zm ?_)))))
   have I:=M.fst (l:=[_,_]) I.pl2
   exact ⟨_,ois b,u,H.s,I⟩
  intro k b
  refine o_4 (Zu (Zu (YQ ?_)))
  obtain rfl:=j _ (ois b)
  refine Zm ?_
  have I:=M.fst (l:=[_]) I.pl1
  exact ⟨d,H.s,I⟩
 rintro a w ⟨u8,H,I⟩
 refine Zz (Zb (Zd H R λa H=>Zc H R λa H=>Ze ?_))
 obtain rfl:=o_1 o
 exact p_3 (ZV H R (ZD H R) ⟨_,R,u8,R,I.outF (ZK Yo),I.kept⟩)
def Ux (h : GCipher) (i : V16) (j : (List UInt8)) : Option (V32) :=
 (VC i 90).bind λk=>(app 1 k j).bind λl=>(Vp h (k ++ j)).bind λd=>((VC i 165).bind λb=>(WB d).bind λc=>(app 1 b c).bind λm=>(Vp h (b ++ c)).bind λe=>some e : Option (V32)).bind λf=>some f
theorem BK (G : World) (d : GCipher) (A : V16) (K : xg) (x : Value) (B : Ro G K [x]) (r : V32) (J : Ux d A K = some r) :
  Calls prog 246 [Value.agg (enc d).toArray,Value.agg (enc A).toArray,x].toArray G (Rt G (Value.agg (enc r).toArray)):=by
 refine ce func246 ?_
 intro a H
 have I:=M.start G
 unfold Ux at J
 refine Zb (Z2 (cs:=cat [[vI d.Field],enc d.Box,enc d.Mix,enc d.Places,[vI d.Rounds]]) H I Za ld R R λb1 w a I H=>Z2 (cs:=enc A) H I Za ld R R λb3 w a I H=>Zw H I Yq λY w a I H=>Ze (s_2 ?_))
 obtain ⟨L,e9,J⟩:=p_1 J
 obtain ⟨an,Z,J⟩:=p_1 J
 obtain ⟨m,aa,J⟩:=p_1 J
 refine Yl (its:=[raw Y xr,raw b3 (enc A),raw b1 (cat [[vI d.Field],enc d.Box,enc d.Mix,enc d.Places,[vI d.Rounds]])]) (mk:=([mkN [(4,λv=>osl NoB ((L ++ K) : List UInt8) v),(2,λv=>osl NoB (L : List UInt8) v)],mkO 6 (λv=>XS v xr)] : Mk)) [8,9,10,11,12,13,7] Yt R R (by decide) R H (λu=>M.qE (M.qE (M.q0 I.drew u) emO) emN) (qsP (λz=>Zx z.E Za ld R Kq R (z.M.ra2) cq (kr0 R)) (qsP (λz=>Zx z.E Za ld R ZE R (z.M.ra1) (u_1 _) (kr0 R)) (qsM (pr:=λv=>True) ?_ (q_m (λ_=>R) (qsM (pr:=λv=>True) ?_ (qsP (v:=(Value.agg (enc m).toArray)) ?_ (qsM (pr:=λv=>True) ?_ qs0))))))) ?_
 ·intro a w n D z
  have H:=z.E
  have hD : D 2 = false:=z.F
  have hM0:=z.M
  have I:=z.M
  refine Zp H R (cbm func306) (J0 _ A 90 L e9) ?_
  rintro _ w a ⟨_,rfl,hFr,hK⟩ H
  have I:=hM0.add hK hFr
  have N : D 4 = false:=WH (j:=4) (k:=0) z.c R R R hD
  exact ⟨_,_,R,H,M.qPut (mk1:=[]) (mk2:=[_]) I R (Bp (HH N (HH hD HK))) (K7 (l:=[_]) (HH N HK)),trivial⟩
 ·intro a w n D z
  have H:=z.E
  have hD : D 4 = false:=z.F
  have d2 : D 2 = true:=z.p 0 _ R R
  have I:=(z.M.chnF (pre:=[_,_,_]) hD).chnT (pre:=[_,_,_]) d2
  obtain ⟨ac,rfl⟩:=Z1 Z
  have I:=I.pl3
  exact Z3 H I Za ld R R (I.rd B) o_2 ty5 R (by decide) ac λao w a I H=>⟨_,_,R,H,M.qTogS (mk1:=[]) (mk2:=[_]) I R (K7 (l:=[]) HK),trivial⟩
 ·intro a w n D z
  have H:=z.E
  have y : D 4 = true:=z.p 1 _ R R
  have I:=z.M.chnT (pre:=[_,_,_]) y
  refine Zp H R Zd2 (Jg _ d (L ++ K) (n 4) (I.sl3) m aa) ?_
  rintro v w a ⟨rfl,hK⟩ H
  exact ⟨hK,_,R,H⟩
 ·intro a w n D z
  have H:=z.E
  have hD : D 6 = false:=z.F
  have I:=z.M
  refine Zw H I Yq ?_; intro ap w a I H
  have I:=I.pack1 (it:=XS _ xr) (λw w' fp ⟨b',e,k⟩ hb=>⟨b',e,Yz w w' fp k hb⟩) (λfp k=>⟨_,R,k⟩)
  exact ⟨_,_,R,H,M.qFill (mk1:=[_]) (mk2:=[]) (f:=λv=>XS v xr) I R hD,trivial⟩
 intro a w n D H I hG h
 have y:=h 4 (by decide)
 have d6:=h 6 (by decide)
 have I:=((I.chnT (pre:=[_,_,_]) y).sure (pre:=[_,_,_,_]) d6).pl
 obtain ⟨_,⟨O,T,_⟩,_⟩:=I.head
 have I:=I.pack1 Yz (it:=raw O xr) (λfp ⟨b2,e2,k2⟩=>by rw [T] at e2; simp [ptr] at e2; subst e2; exact k2)
 have H:=H.setq (t:=7) R T
 refine Zk (seg:=enc m) (cs':=enc m) H I Za R R R Yq (u_1 _) (zle flq) (s_1 _) (Zh flq) λw a I H=>Zj (Zz ?_)
 obtain ⟨ae,b,U⟩:=p_1 J
 refine ZJ (λa w=>Env 21 a [(6,ptr Y 0)] ∧ M (Old G) G w [raw Y (enc ae)]) ?_ ?_
 ·obtain ⟨q,af,b⟩:=p_1 b
  obtain ⟨o,ag,b⟩:=p_1 b
  obtain ⟨au,ah,b⟩:=p_1 b
  refine Yl (its:=[raw O (enc m),raw Y xr,raw b3 (enc A),raw b1 (cat [[vI d.Field],enc d.Box,enc d.Mix,enc d.Places,[vI d.Rounds]]),osl NoB ((L ++ K) : List UInt8) (n 4)]) (mk:=([mkN [(5,λv=>osl NoB ((q ++ o) : List UInt8) v),(2,λv=>osl NoB (q : List UInt8) v)],mkO 4 (λv=>osl NoB (o : List UInt8) v)] : Mk)) [14,15,16,17,18,19] Yt R R (by decide) R H (λu=>M.qE (M.qE (M.q0 I.drew u) emO) emN) (qsP (λz=>Zx z.E Za ld R Kq R (z.M.ra3) cq (kr0 R)) (qsP (λz=>Zx z.E Za ld R ZE R (z.M.ra2) (u_1 _) (kr0 R)) (qsM (pr:=λv=>True) ?_ (qsP (λz=>Zx z.E Za ld R Yq R (z.M.ra0) (u_1 _) (kr0 R)) (qsM (pr:=λv=>True) ?_ (qsM (pr:=λv=>True) ?_ qs0)))))) ?_
  ·intro a w i D z
   have H:=z.E
   have hD : D 2 = false:=z.F
   have hM0:=z.M
   have I:=z.M
   refine Zp H R (cbm func306) (J0 _ A 165 q af) ?_
   rintro _ w a ⟨_,rfl,hFr,hK⟩ H
   have I:=hM0.add hK hFr
   have W : D 5 = false:=WH (j:=5) (k:=0) z.c R R R hD
   exact ⟨_,_,R,H,M.qPut (mk1:=[]) (mk2:=[_]) I R (Bp (HH W (HH hD HK))) (K7 (l:=[_]) (HH W HK)),trivial⟩
  ·intro a w i D z
   have H:=z.E
   have hD : D 4 = false:=z.F
   have hM0:=z.M
   have I:=z.M
   refine Zp H R Zeb (QU _ m o ag) ?_
   rintro _ w a ⟨_,rfl,hFr,hK⟩ H
   have I:=hM0.add hK hFr
   exact ⟨_,_,R,H,M.qFill (mk1:=[_]) (mk2:=[]) (f:=(λv=>osl NoB (o : List UInt8) v)) I R hD,trivial⟩
  ·intro a w i D z
   have H:=z.E
   have hD : D 5 = false:=z.F
   have d2 : D 2 = true:=z.p 0 _ R R
   have y : D 4 = true:=z.p 1 _ R R
   have I:=((z.M.chnF (pre:=[_,_,_,_,_]) hD).chnT (pre:=[_,_,_,_,_]) d2).sure (pre:=[_,_,_,_,_,_]) y
   obtain ⟨ai,rfl⟩:=Z1 ah
   have I:=I.pl5
   refine Z3 H I Za ld R R (I.sl6) o_2 ty5 R (by decide) ai ?_; intro av w a I H
   have I:=I.unsure (pre:=[_,_,_,_,_,_]) y
   exact ⟨_,_,R,H,M.qTogS (mk1:=[]) (mk2:=[_]) I R (K7 (l:=[]) HK),trivial⟩
  intro a w i D H I hG h
  have y:=h 4 (by decide)
  have d5:=h 5 (by decide)
  have I:=(I.chnT (pre:=[_,_,_,_,_]) d5).sure (pre:=[_,_,_,_,_,_]) y
  obtain ⟨C,aj,b⟩:=p_1 b
  refine Zp H R Zd2 (Jg _ d (q ++ o) (i 5) (I.sl5) C aj) ?_
  rintro v w a ⟨rfl,hK⟩ H
  have I:=(I.keep hK).pl1
  refine Zk (seg:=enc C) (cs':=enc C) H I Za R R R Yq (u_1 _) (zle flq) (s_1 _) (Zh flq) λw a I H=>Zj ?_
  obtain rfl:=o_1 b
  refine Zm ?_
  have I:=M.fst (l:=[_]) I
  exact ⟨H.s,I⟩
 rintro a w ⟨H,I⟩
 obtain rfl:=o_1 U
 have X : Yb prog _ _ (.cell 6 32) _:=ZG H R Yq R I.ra0 (u_1 _) R
 exact p_3 (ZV H R X ⟨_,R,R,I.kept⟩)
def WQ (l : GVault) (b : GRecord) : Option (V32) :=
 ((UN b.Number).bind λd=>(app 1 d ([Zv b.Version] : List UInt8)).bind λm=>some (d ++ ([Zv b.Version] : List UInt8)) : Option ((List UInt8))).bind λe=>(WV ([b.Nonce] : List V16)).bind λc=>(app 1 e c).bind λn=>(app 1 (e ++ c) ([Zv (b.Label.length : Int)] : List UInt8)).bind λo=>(app 1 ((e ++ c) ++ ([Zv (b.Label.length : Int)] : List UInt8)) b.Label).bind λq=>(app 1 (((e ++ c) ++ ([Zv (b.Label.length : Int)] : List UInt8)) ++ b.Label) b.Body).bind λt=>((Wa).bind λf=>(idx l.Keys b.Version).bind λh=>(Ui h 129).bind λi=>(Ux f i ((((e ++ c) ++ ([Zv (b.Label.length : Int)] : List UInt8)) ++ b.Label) ++ b.Body)).bind λj=>some j : Option (V32)).bind λk=>some k
theorem JS (m : World) (t : GVault) (h : Value) (n : Ro m t.Keys [h]) (j : Value) (X : Ro m t.Records [j]) (k : Value) (Y : Ro m t.Events [k]) (b : GRecord) (d : Value) (o : Ro m b.Label [d]) (i : Value) (B : Ro m b.Body [i]) (r : V32) (J : WQ t b = some r) :
  Calls prog 153 [vcV h j k t,vcR d i b].toArray m (Rt m (Value.agg (enc r).toArray)):=by
 refine ce func153 ?_
 intro a H
 have I:=M.start m
 unfold WQ at J
 refine Zb (Z2 (cs:=cV h j k t) H I Za ld R R λZ w a I H=>Z2 (cs:=cR d i b) H I Za ld R R λb3 w a I H=>Zw H I Yq λL w a I H=>Ze ?_)
 obtain ⟨j7,q,e⟩:=p_1 J
 refine ZJ (λa w=>∃ C : Value,Env 45 a [(2,ptr Z 0),(3,ptr b3 0),(4,ptr L 0),(5,C)] ∧ M (Old m) m w [raw L xr,raw b3 (cR d i b),raw Z (cV h j k t),osl NoB (j7 : List UInt8) C]) ?_ ?_
 ·obtain ⟨G,ab,q⟩:=p_1 q
  refine Yl (its:=[raw L xr,raw b3 (cR d i b),raw Z (cV h j k t)]) (mk:=([mkO 2 (λv=>osl NoB (G : List UInt8) v),mkO 6 (λv=>osl NoB (([Zv b.Version] : List UInt8) : List UInt8) v)] : Mk)) [6,7,8,9,10,11,12] Yt R R (by decide) R H (λu=>M.qE (M.qE (M.q0 I.drew u) emO) emO) (qsP (λz=>Zg z.E Za ld R (VS) (kr0 R)) (qsP (λz=>Zy (v:=(vI b.Number)) z.E Za ld R ty2 R (at_0 (z.M.ra1)) (kr0 R)) (qsM (pr:=λv=>True) ?_ (qsP (λz=>Zg z.E Za ld R (Qe) (kr0 R)) (qsP (λz=>Zy (v:=(vI b.Version)) z.E Za ld R ty2 R (at_1 (z.M.ra1)) (kr0 R)) (qsP (λz=>YX z.E Za ld R s_4 t_3 (kr0 R)) (qsM (pr:=λv=>True) ?_ qs0))))))) ?_
  ·intro a w x D z
   have H:=z.E
   have hD : D 2 = false:=z.F
   have hM0:=z.M
   have I:=z.M
   refine Zp H R (cbm func244) (HR _ b.Number G ab) ?_
   rintro _ w a ⟨_,rfl,hFr,hK⟩ H
   have I:=hM0.add hK hFr
   exact ⟨_,_,R,H,M.qFill (mk1:=[]) (mk2:=[_]) (f:=(λv=>osl NoB (G : List UInt8) v)) I R hD,trivial⟩
  ·intro a w x D z
   have H:=z.E
   have hD : D 6 = false:=z.F
   have I:=z.M
   exact ZL (xs:=[.tmp 11]) (l:=([Zv b.Version] : List UInt8)) (vs:=[vB (Zv b.Version)]) H I Za ld R R o_2 ty5 R (by decide) R λay w a I H=>⟨_,_,R,H,M.qFill (mk1:=[_]) (mk2:=[]) (f:=(λv=>osl NoB (([Zv b.Version] : List UInt8) : List UInt8) v)) I R hD,trivial⟩
  intro a w x D H I hG y
  have d2:=y 2 (by decide)
  have d6:=y 6 (by decide)
  have I:=(I.sure (pre:=[_,_,_]) d2).sure (pre:=[_,_,_,_]) d6
  obtain ⟨a1,ac,q⟩:=p_1 q
  obtain ⟨ad,rfl⟩:=Z1 ac
  have I:=I.pl3
  refine Z3 H I Za ld R R (I.sl4) o_2 ty5 R (by decide) ad λae w a I H=>Zc H R λa H=>Zj ?_
  obtain rfl:=o_1 q
  refine Zm ?_
  have I:=M.fst (l:=[_,_,_,_]) I.pl3.pl3.pl3
  exact ⟨ae,H.s,I⟩
 rintro a w ⟨C,H,I⟩
 refine Zb (Zd H R λa H=>Zl H R (JT) λa H=>Zq H R ZE R (at_2 I.ra1) (u_1 _) λa H=>ZL (xs:=[.tmp 16]) (l:=([b.Nonce] : List V16)) (vs:=[Value.agg (enc b.Nonce).toArray]) H I Za ld R R s_3 ZE R (by decide) R ?_); intro af w a I H
 obtain ⟨N,ag,e⟩:=p_1 e
 refine Zp H R (cbm func245) (HU _ ([b.Nonce] : List V16) af (I.sl0) N ag) ?_
 rintro a2 w a ⟨_,rfl,hFr,hK⟩ H
 have I:=I.add hK hFr
 obtain ⟨a3,ah,e⟩:=p_1 e
 obtain ⟨ai,rfl⟩:=Z1 ah
 have I:=I.pl5
 refine Z3 H I Za ld R R (I.sl1) o_2 ty5 R (by decide) ai λa4 w a I H=>Zc H R λa H=>Ze (Zb (Zd H R λa H=>Zl H R (Ko) λa H=>ZB (v:=d) H R X7 R (at_3 I.ra4) λa H=>YE H R o_2 (I.rd o) λa H=>YX H Za ld R s_5 t_3 λa H=>ZL (xs:=[.tmp 24]) (l:=([Zv (b.Label.length : Int)] : List UInt8)) (vs:=[vB (Zv (b.Label.length : Int))]) H I Za ld R R o_2 ty5 R (by decide) R ?_)); intro a5 w a I H
 obtain ⟨a6,aj,e⟩:=p_1 e
 obtain ⟨ak,rfl⟩:=Z1 aj
 have I:=I.pl1
 refine Z3 H I Za ld R R (I.sl1) o_2 ty5 R (by decide) ak λa7 w a I H=>Zc H R λa H=>Ze (Zb (Zd H R λa H=>Zl H R (Ko) λa H=>ZB (v:=d) H R X7 R (at_3 I.ra5) ?_)); intro a H
 obtain ⟨a8,al,e⟩:=p_1 e
 obtain ⟨am,rfl⟩:=Z1 al
 refine Z3 H I Za ld R R (I.rd o) o_2 ty5 R (by decide) am λa9 w a I H=>Zc H R λa H=>Ze (Zb (Zd H R λa H=>Zl H R (Uy) λa H=>ZB (v:=i) H R X7 R (at_4 I.ra5) ?_)); intro a H
 obtain ⟨ba,an,e⟩:=p_1 e
 obtain ⟨ao,rfl⟩:=Z1 an
 refine Z3 H I Za ld R R (I.rd B) o_2 ty5 R (by decide) ao λap w a I H=>Zc H R λa H=>Ze ?_
 obtain ⟨aq,c,O⟩:=p_1 e
 refine ZJ (λa w=>Env 45 a [(4,ptr L 0)] ∧ M (Old m) m w [raw L (enc aq)]) ?_ ?_
 ·obtain ⟨T,ar,c⟩:=p_1 c
  obtain ⟨au,A,c⟩:=bix c
  obtain ⟨U,av,c⟩:=p_1 c
  obtain ⟨K,aw,c⟩:=p_1 c
  refine Z9 [35,36,37,38,39,40,41,42,43,44] Yt R R (by decide) R H I (qsP (λz=>Yd z.E Za ld R Zdo (QA _  T ar) (kc R)) (qsP (λz=>Zg z.E Za ld R (XA) (kr0 R)) (qsP (λz=>Zy (v:=h) z.E Za ld R T0 R (at_0 (z.M.ra6)) (kr0 R)) (qsP (λz=>Zg z.E Za ld R (Qe) (kr0 R)) (qsP (λz=>Zy (v:=(vI b.Version)) z.E Za ld R ty2 R (at_1 (z.M.ra5)) (kr0 R)) (qsP (λz=>Yu z.E Za ld R R s_3 ZE (z.M.rd n) A.1 (kr0 R)) (qsP (λz=>Zx z.E Za ld R ZE R (Xe (z.M.rd n) A.2) (u_1 _) (kr0 R)) (qsP (λz=>Yd z.E Za ld R (cbm func247) (As _ au 129 U av) (kc R)) (q_m (λ_=>R) (qsP (λz=>Yd z.E Za ld R (cbm func246) (BK _ T U ((((j7 ++ N) ++ ([Zv (b.Label.length : Int)] : List UInt8)) ++ b.Label) ++ b.Body) ap (z.M.sl0) K aw) (kc R)) qs0)))))))))) ?_
  ·intro a w u H I
   have I:=I.pl4
   refine Zk (seg:=enc K) (cs':=enc K) H I Za R R R Yq (u_1 _) (zle flq) (s_1 _) (Zh flq) λw a I H=>Zj ?_
   obtain rfl:=o_1 c
   refine Zm ?_
   have I:=M.fst (l:=[_]) I
   exact ⟨H.s,I⟩
 rintro a w ⟨H,I⟩
 obtain rfl:=o_1 O
 have W : Yb prog _ _ (.cell 4 32) _:=ZG H R Yq R I.ra0 (u_1 _) R
 exact p_3 (ZV H R W ⟨_,R,R,I.kept⟩)
def W0 (f : GCipher) (h : V16) (i : V16) (j : Int) (b : Int × (List UInt8)) : Option (Fl (Int × (List UInt8)) (List UInt8)) :=
 if decide ((b.2.length : Int) < j) then ((WV ([i] : List V16)).bind λc=>(app 1 c ([Zv (wr (Int.tdiv b.1 256)),Zv (Int.tmod b.1 256)] : List UInt8)).bind λk=>(Ux f h (c ++ ([Zv (wr (Int.tdiv b.1 256)),Zv (Int.tmod b.1 256)] : List UInt8))).bind λe=>(WB e).bind λd=>(app 1 b.2 d).bind λl=>some (Fl.nx (wr (b.1 + 1),b.2 ++ d))) else (some (Fl.ex b.2))
def U6 (e : GCipher) (f : V16) (h : V16) (d : Int) : Option ((List UInt8)) :=
 (ZQ (W0 e f h d) (0,([] : List UInt8))).bind λi=>(slc i (0 : Int) d).bind λb=>(XI b).bind λc=>some c
theorem zD (f : World) (e : GCipher) (k : V16) (j : V16) (m : Int) (r : xg) (J : U6 e k j m = some r) :
  Calls prog 242 [Value.agg (enc e).toArray,Value.agg (enc k).toArray,Value.agg (enc j).toArray,vI m].toArray f (e_r λv w'=>(∃ X : Value,v = X ∧ Fr f w' [osl NoB (r : List UInt8) X] ∧ Kept (Old f) f w')):=by
 refine ce func242 ?_
 intro a H
 have I:=M.start f
 unfold U6 at J
 refine Zb (Z2 (cs:=cat [[vI e.Field],enc e.Box,enc e.Mix,enc e.Places,[vI e.Rounds]]) H I Za ld R R λY w a I H=>Z2 (cs:=enc k) H I Za ld R R λZ w a I H=>Z2 (cs:=enc j) H I Za ld R R λb5 w a I H=>Zc H R λa H=>Ze (Zb (ZL (xs:=[]) (l:=xx) (vs:=[]) H I Za ld R R o_2 ty5 R (by decide) R λu7 w a I H=>Zc H R λa H=>Ze (s_2 (Zb (Zc H R λa H=>Ze ?_))))))
 obtain ⟨j9,n,d⟩:=p_1 J
 refine Z7 (λa w=>∃ h : Value,Env 41 a [(3,vI m),(9,h)] ∧ M (Old f) f w [osl NoB (j9 : List UInt8) h]) ?_ ?_
 ·refine p_2 ?_
  have I:=I.pl3.pl3.pl3
  refine ZR (λ(c : Int × xg) a w=>∃ i : Value,Env 41 a [(3,vI m),(4,ptr Y 0),(5,ptr Z 0),(6,ptr b5 0),(9,i),(10,vI c.1)] ∧ M (Old f) f w [raw b5 (enc j),raw Z (enc k),raw Y (cat [[vI e.Field],enc e.Box,enc e.Mix,enc e.Places,[vI e.Rounds]]),osl NoB (c.2 : List UInt8) i]) n ⟨u7,H.s,I⟩ ?_
  rintro c a w ⟨i,H,I⟩ ad b o
  unfold W0 at b
  refine s_2 (Zb (Zd H R λa H=>YE H R o_2 (I.sl3) λa H=>Zd H R λa H=>Zn H R R R λa H=>Ze ?_))
  refine c_if H R b ?_ ?_
  ·intro q b
   refine u_2 (Zz (s_2 (p_2 (Zb (Zq H R ZE R I.ra0 (u_1 _) λa H=>ZL (xs:=[.tmp 19]) (l:=([j] : List V16)) (vs:=[Value.agg (enc j).toArray]) H I Za ld R R s_3 ZE R (by decide) R ?_))))); intro y w a I H
   obtain ⟨t,z,b⟩:=p_1 b
   refine Zp H R (cbm func245) (HU _ ([j] : List V16) y (I.sl0) t z) ?_
   rintro ae w a ⟨_,rfl,hFr,hK⟩ H
   have I:=I.add hK hFr
   refine Zd H R λa H=>Zn H R R (jk _ _ (by decide)) λa H=>YX H Za ld R s_5 t_3 λa H=>Zd H R λa H=>Zn H R R (KG _ _ (by decide)) λa H=>YX H Za ld R s_5 t_3 λa H=>ZL (xs:=[.tmp 24,.tmp 27]) (l:=([Zv (wr (Int.tdiv c.1 256)),Zv (Int.tmod c.1 256)] : List UInt8)) (vs:=[vB (Zv (wr (Int.tdiv c.1 256))),vB (Zv (Int.tmod c.1 256))]) H I Za ld R R o_2 ty5 R (by decide) R ?_; intro af w a I H
   obtain ⟨ag,A,b⟩:=p_1 b
   obtain ⟨B,rfl⟩:=Z1 A
   have I:=I.pl1
   refine Z3 H I Za ld R R (I.sl1) o_2 ty5 R (by decide) B λC w a I H=>Zc H R λa H=>Ze (t_1 (Zd H R λa H=>Zq H R Kq R I.ra5 cq λa H=>Zq H R ZE R I.ra4 (u_1 _) λa H=>Zd H R ?_)); intro a H
   obtain ⟨u,E,b⟩:=p_1 b
   refine c_k H I R (cbm func246) (BK _ e k (t ++ ([Zv (wr (Int.tdiv c.1 256)),Zv (Int.tmod c.1 256)] : List UInt8)) C (I.sl0) u E) ?_; intro w a I H
   obtain ⟨F,G,b⟩:=p_1 b
   refine Zp H R Zeb (QU _ u F G) ?_
   rintro ah w a ⟨_,rfl,hFr,hK⟩ H
   have I:=I.add hK hFr
   obtain ⟨ai,K,b⟩:=p_1 b
   obtain ⟨L,rfl⟩:=Z1 K
   have I:=I.pl7
   refine Z3 H I Za ld R R (I.sl1) o_2 ty5 R (by decide) L λN w a I H=>Zc H R λa H=>Zj (YA (Zz (t_1 (Zd H R λa H=>Zn H R R R λa H=>Zc H R λa H=>Zj (Zm ?_)))))
   have I:=M.fst (l:=[_,_,_,_]) I.pl7.pl7.pl7
   exact ⟨_,ois b,N,H.s,I⟩
  intro q b
  refine o_4 (Zu (Zu (YQ ?_)))
  obtain rfl:=o _ (ois b)
  refine Zm ?_
  have I:=M.fst (l:=[_]) I.pl3
  exact ⟨i,H.s,I⟩
 rintro a w ⟨h,H,I⟩
 refine Zz (Zb (Zd H R λa H=>Zd H R ?_)); intro a H
 obtain ⟨O,x,d⟩:=p_1 d
 refine QZ H Za ld R R R R R o_2 ty5 (I.sl0) x ?_; intro a H
 obtain ⟨T,U,d⟩:=p_1 d
 refine Zp H R cb96 (Qq _ O (Yc h (xj).toNat (m).toNat 1) (Xh (I.sl0) x) T U) ?_
 rintro W w a ⟨_,rfl,hFr,hK⟩ H
 have I:=I.add hK hFr
 refine Zc H R λa H=>Ze ?_
 obtain rfl:=o_1 d
 have I:=M.fst (l:=[_]) I
 exact p_3 (ZV H R (ZD H R) ⟨_,R,W,R,I.outF (ZK Yo),I.kept⟩)
def Vb (e : (List UInt8)) (f : (List UInt8) × (List UInt8)) (b : (List UInt8) × Int) : Option (Fl ((List UInt8) × Int) (List UInt8)) :=
 if decide (b.2 < (e.length : Int)) then ((idx e b.2).bind λc=>(idx f.1 b.2).bind λd=>(app 1 b.1 ([c ^^^ d] : List UInt8)).bind λh=>some (Fl.nx ((b.1 ++ ([c ^^^ d] : List UInt8)),wr (b.2 + 1)))) else (some (Fl.ex b.1))
def XQ (j : GVault) (f : GRecord) (h : (List UInt8)) : Option ((List UInt8)) :=
 ((Wa).bind λb=>(idx j.Keys f.Version).bind λc=>(U6 b c f.Nonce (h.length : Int)).bind λd=>some (d,([] : List UInt8)) : Option ((List UInt8) × (List UInt8))).bind λi=>(ZQ (Vb h i) (i.2,0)).bind λe=>some e
theorem KE (d : World) (T : GVault) (e : Value) (y : Ro d T.Keys [e]) (m : Value) (ae : Ro d T.Records [m]) (n : Value) (af : Ro d T.Events [n]) (A : GRecord) (o : Value) (ag : Ro d A.Label [o]) (q : Value) (ah : Ro d A.Body [q]) (p2 : xg) (t : Value) (c : Ro d p2 [t]) (r : xg) (J : XQ T A p2 = some r) :
  Calls prog 152 [vcV e m n T,vcR o q A,t].toArray d (e_r λv w'=>(∃ y1 : Value,v = y1 ∧ Fr d w' [osl NoB (r : List UInt8) y1] ∧ Kept (Old d) d w')):=by
 refine ce func152 ?_
 intro a H
 have I:=M.start d
 unfold XQ at J
 refine Zb (Z2 (cs:=cV e m n T) H I Za ld R R λb1 w a I H=>Z2 (cs:=cR o q A) H I Za ld R R λb3 w a I H=>Zc H R λa H=>Ze ?_)
 obtain ⟨j5,i,aj⟩:=p_1 J
 refine ZJ (λa w=>∃ u8 C : Value,Env 42 a [(2,t),(7,u8),(8,C)] ∧ M (Old d) d w [osl NoB (j5.1 : List UInt8) u8,osl NoB (j5.2 : List UInt8) C]) ?_ ?_
 ·obtain ⟨X,ak,i⟩:=p_1 i
  obtain ⟨al,L,i⟩:=bix i
  obtain ⟨U,am,i⟩:=p_1 i
  refine Yl (its:=[raw b3 (cR o q A),raw b1 (cV e m n T)]) (mk:=([mkO 11 (λv=>osl NoB (U : List UInt8) v),mkO 12 (λv=>osl NoB (xx : List UInt8) v)] : Mk)) [10,11,12,13,14,15,16,17,18,19,20,21,22,7] Yt R R (by decide) R H (λu=>M.qE (M.qE (M.q0 I.drew u) emO) emO) (qsP (λz=>Yd z.E Za ld R Zdo (QA _  X ak) (kc R)) (qsP (λz=>Zg z.E Za ld R (XA) (kr0 R)) (qsP (λz=>Zy (v:=e) z.E Za ld R T0 R (at_0 (z.M.ra1)) (kr0 R)) (qsP (λz=>Zg z.E Za ld R (Qe) (kr0 R)) (qsP (λz=>Zy (v:=(vI A.Version)) z.E Za ld R ty2 R (at_1 (z.M.ra0)) (kr0 R)) (qsP (λz=>Yu z.E Za ld R R s_3 ZE (z.M.rd y) L.1 (kr0 R)) (qsP (λz=>Zx z.E Za ld R ZE R (Xe (z.M.rd y) L.2) (u_1 _) (kr0 R)) (qsP (λz=>Zg z.E Za ld R (JT) (kr0 R)) (qsP (λz=>Zx z.E Za ld R ZE R (at_2 (z.M.ra0)) (u_1 _) (kr0 R)) (q_m (λ_=>R) (qsP (λz=>WE z.E Za ld R o_2 (z.M.rd c) (kr0 R)) (qsM (pr:=λv=>True) ?_ (qsM (pr:=λv=>True) ?_ (qsD (ds:=[11]) (f:=λus=>(us.getD 0 undef)) ?_ qs0)))))))))))))) ?_
  ·intro a w h D z
   have H:=z.E
   have hD : D 11 = false:=z.F
   have hM0:=z.M
   have I:=z.M
   refine Zp H R (cbm func242) (zD _ X al A.Nonce (p2.length : Int) U am) ?_
   rintro _ w a ⟨_,rfl,hFr,hK⟩ H
   have I:=hM0.add hK hFr
   exact ⟨_,_,R,H,M.qFill (mk1:=[]) (mk2:=[_]) (f:=(λv=>osl NoB (U : List UInt8) v)) I R hD,trivial⟩
  ·intro a w h D z
   have H:=z.E
   have hD : D 12 = false:=z.F
   have I:=z.M
   exact ZL (xs:=[]) (l:=xx) (vs:=[]) H I Za ld R R o_2 ty5 R (by decide) R λay w a I H=>⟨_,_,R,H,M.qFill (mk1:=[_]) (mk2:=[]) (f:=(λv=>osl NoB (xx : List UInt8) v)) I R hD,trivial⟩
  ·intro a w h D z
   have H:=z.E
   have W : D 11 = true:=z.p 0 _ R R
   exact Zc H R λa H=>⟨o_5 _ _,J8 W HJ,_,R,H⟩
  intro a w h D H I hG x
  have W:=x 11 (by decide)
  have an:=x 12 (by decide)
  have I:=(I.sure (pre:=[_,_]) W).sure (pre:=[_,_,_]) an
  refine Zc H R λa H=>Zj ?_
  obtain rfl:=o_1 i
  refine Zm ?_
  have I:=M.fst (l:=[_,_]) I.pl3.pl3
  exact ⟨h 11,h 12,H.s,I⟩
 rintro a w ⟨u8,C,H,I⟩
 refine s_2 (Zb (Zc H R λa H=>Ze ?_))
 obtain ⟨ao,Y,Z⟩:=p_1 aj
 refine Z7 (λa w=>∃ G : Value,Env 42 a [(8,G)] ∧ M (Old d) d w [osl NoB (ao : List UInt8) G]) ?_ ?_
 ·refine p_2 ?_
  refine ZR (λ(K : xg × Int) a w=>∃ B : Value,Env 42 a [(2,t),(7,u8),(8,B),(9,vI K.2)] ∧ M (Old d) d w [osl NoB (j5.1 : List UInt8) u8,osl NoB (K.1 : List UInt8) B]) Y ⟨C,H.s,I⟩ ?_
  rintro K a w ⟨B,H,I⟩ az b aa
  unfold Vb at b
  refine s_2 (Zb (Zd H R λa H=>Zd H R λa H=>YE H R o_2 (I.rd c) λa H=>Zn H R R R λa H=>Ze ?_))
  refine c_if H R b ?_ ?_
  ·intro ab b
   refine u_2 (Zz (s_2 (p_2 ?_)))
   obtain ⟨j,N,b⟩:=bix b
   obtain ⟨k,O,b⟩:=bix b
   refine Yl (its:=[osl NoB (j5.1 : List UInt8) u8,osl NoB (K.1 : List UInt8) B]) (mk:=([mkO 10 (λv=>osl NoB (([j ^^^ k] : List UInt8) : List UInt8) v)] : Mk)) [29,30,31,32,33,34,35,36,37,38,39] Yt R R (by decide) R H (λu=>M.qE (M.q0 I.drew u) emO) (q_m (λ_=>R) (q_m (λ_=>R) (q_m (λ_=>R) (qsP (λz=>Yu z.E Za ld R R o_2 ty5 (z.M.rd c) N.1 (kr0 R)) (qsP (λz=>Zy (v:=(vB j)) z.E Za ld R ty5 R (Xe (z.M.rd c) N.2) (kr0 R)) (q_m (λ_=>R) (q_m (λ_=>R) (qsP (λz=>Yu z.E Za ld R R o_2 ty5 (z.M.sl0) O.1 (kr0 R)) (qsP (λz=>Zy (v:=(vB k)) z.E Za ld R ty5 R (Xe (z.M.sl0) O.2) (kr0 R)) (qsP (v:=(vB (j ^^^ k))) (λz=>Z8 z.E Za ld R R (Vs j k) (kr0 R)) (qsM (pr:=λv=>True) ?_ qs0))))))))))) ?_
   ·intro a w ac D z
    have H:=z.E
    have hD : D 10 = false:=z.F
    have I:=z.M
    exact ZL (xs:=[.tmp 38]) (l:=([j ^^^ k] : List UInt8)) (vs:=[vB (j ^^^ k)]) H I Za ld R R o_2 ty5 R (by decide) R λa0 w a I H=>⟨_,_,R,H,M.qFill (mk1:=[]) (mk2:=[]) (f:=(λv=>osl NoB (([j ^^^ k] : List UInt8) : List UInt8) v)) I R hD,trivial⟩
   intro a w ac D H I hG x
   have ap:=x 10 (by decide)
   have I:=I.sure (pre:=[_,_]) ap
   obtain ⟨a1,aq,b⟩:=p_1 b
   obtain ⟨ar,rfl⟩:=Z1 aq
   have I:=I.pl1
   refine Z3 H I Za ld R R (I.sl2) o_2 ty5 R (by decide) ar λau w a I H=>Zc H R λa H=>Zj (YA (Zz (t_1 (Zd H R λa H=>Zn H R R R λa H=>Zc H R λa H=>Zj (Zm ?_)))))
   have I:=M.fst (l:=[_,_]) I.pl1
   exact ⟨_,ois b,au,H.s,I⟩
  intro ab b
  refine o_4 (Zu (Zu (YQ ?_)))
  obtain rfl:=aa _ (ois b)
  refine Zm ?_
  have I:=M.fst (l:=[_]) I.pl1
  exact ⟨B,H.s,I⟩
 rintro a w ⟨G,H,I⟩
 refine Zz (Zb (Zd H R λa H=>Zc H R λa H=>Ze ?_))
 obtain rfl:=o_1 Z
 exact p_3 (ZV H R (ZD H R) ⟨_,R,G,R,I.outF (ZK Yo),I.kept⟩)
def Un (b : GVault) (m : Int) : Option ((List UInt8) × Int) :=
 (Vq b).bind λn=>if !n then (some ([],1)) else ((Ve b m).bind λc=>if decide (c < 0) then (some ([],4)) else (((idx b.Records c).bind λe=>(WQ b e).bind λf=>(idx b.Records c).bind λh=>some (!decide (f = h.Tag)) : Option (Bool)).bind λi=>if i then (some ([],5)) else (((idx b.Records c).bind λj=>(idx b.Records c).bind λk=>(XQ b j k.Body).bind λl=>some (l,0) : Option ((List UInt8) × Int)).bind λd=>some (d.1,d.2))))
theorem Ap (n : World) (m : GVault) (c : Value) (i : Ro n m.Keys [c]) (d : Value) (b : Ro n m.Records [d]) (e : Value) (j : Ro n m.Events [e]) (Y : Int) (r : xg × Int) (J : Un m Y = some r) :
  Calls prog 58 [vcV c d e m,vI Y].toArray n (e_r λv w'=>(∃ y1 : Value,v = (Value.tuple [y1,vI r.2].toArray) ∧ Fr n w' [osl NoB (r.1 : List UInt8) y1] ∧ Kept (Old n) n w')):=by
 refine ce func58 ?_
 intro a H
 have I:=M.start n
 unfold Un at J
 refine Zb (Z2 (cs:=cV c d e m) H I Za ld R R λb1 w a I H=>Zc H R λa H=>Zc H R λa H=>Ze (s_2 (Zb (Zq H R ZF R I.ra0 cq ?_)))); intro a H
 obtain ⟨r3,e4,J⟩:=p_1 J
 refine c_k H I R Zah (Kp _ m c (I.rdo i) d (I.rdo b) e (I.rdo j) r3 e4) ?_; intro w a I H
 refine JD H R λa H=>Ze ?_
 refine c_if H R J ?_ ?_
 ·intro Z J
  refine Zb (Zc H R λa H=>Zc H R λa H=>Ze ?_)
  have I:=M.nilS (α:=UInt8) NoB noB I
  obtain rfl:=o_1 J
  have I:=M.fst (l:=[_]) I
  exact p_3 (ZI (Xf H R (ZD H R) (ZD H R) ⟨_,R,xd,R,I.outF (ZK Yo),I.kept⟩))
 intro Z J
 refine u_2 (Zz (Zb (Zq H R ZF R I.ra0 cq λa H=>Zd H R ?_))); intro a H
 obtain ⟨r7,e8,J⟩:=p_1 J
 refine c_k H I R Zhk (K6 _ m c (I.rdo i) d (I.rdo b) e (I.rdo j) Y r7 e8) ?_; intro w a I H
 refine Zc H R λa H=>Ze (s_2 (Zb (Zd H R λa H=>Zn H R R R λa H=>Ze ?_)))
 refine c_if H R J ?_ ?_
 ·intro aa J
  refine Zb (Zc H R λa H=>Zc H R λa H=>Ze ?_)
  have I:=M.nilS (α:=UInt8) NoB noB I
  obtain rfl:=o_1 J
  have I:=M.fst (l:=[_]) I
  exact p_3 (ZI (Xf H R (ZD H R) (ZD H R) ⟨_,R,xd,R,I.outF (ZK Yo),I.kept⟩))
 intro aa J
 refine u_2 (Zz (s_2 ?_))
 obtain ⟨ab,f,k⟩:=p_1 J
 refine ZJ (λa w=>Env 42 a [(2,ptr b1 0),(6,vI r7),(28,vT ab)] ∧ M (Old n) n w [raw b1 (cV c d e m)]) ?_ ?_
 ·obtain ⟨ac,o,f⟩:=bix f
  obtain ⟨a0,C,F⟩:=Wj b o.2 -- ^
  obtain ⟨ad,ae,rfl,af,ag⟩:=YV C -- ^
  obtain ⟨ah,ai,f⟩:=p_1 f
  obtain ⟨B,q,f⟩:=bix f
  obtain ⟨a1,G,K⟩:=Wj b q.2 -- ^
  obtain ⟨aj,ak,rfl,a7,a8⟩:=YV G -- ^
  refine Z9 [15,16,17,18,19,20,21,22,23,24,25,26,27,28] Yt R R (by decide) R H I (qsP (λz=>Zx z.E Za ld R ZF R (z.M.ra0) cq (kr0 R)) (qsP (λz=>Zg z.E Za ld R (Yn) (kr0 R)) (qsP (λz=>Zy (v:=d) z.E Za ld R XO R (at_2 (z.M.ra0)) (kr0 R)) (q_m (λ_=>R) (qsP (λz=>Yu z.E Za ld R R o_3 Yf (z.M.rd b) o.1 (kr0 R)) (qsP (λz=>Zx z.E Za ld R Yf R (z.M.atk F (VZ b o.2)) cq (kr0 R)) (qsP (λz=>Yd z.E Za ld R Zhm (JS _ m c (z.M.rdo i) d (z.M.rdo b) e (z.M.rdo j) ac ad (z.M.rdo af) ae (z.M.rdo ag) ah ai) (kc R)) (qsP (λz=>Zg z.E Za ld R (Yn) (kr0 R)) (qsP (λz=>Zy (v:=d) z.E Za ld R XO R (at_2 (z.M.ra0)) (kr0 R)) (q_m (λ_=>R) (qsP (λz=>Yu z.E Za ld R R o_3 Yf (z.M.rd b) q.1 (kr0 R)) (qsP (λz=>Zg z.E Za ld R (Tl) (kr0 R)) (qsP (λz=>Zx z.E Za ld R Yq R (at_5 (z.M.atk K (VZ b q.2))) (u_1 _) (kr0 R)) (qsP (λz=>Hx z.E Za ld R R (WJ t_4 ty5 R false R (by decide) (XZ t_3)) (by decide) (by kernel_rfl) (kr0 R)) qs0)))))))))))))) ?_
  ·intro a w u H I
   refine Zj ?_
   obtain rfl:=o_1 f
   refine Zm ?_
   exact ⟨H.s,I⟩
 rintro a w ⟨H,I⟩
 refine c_if H R k ?_ ?_
 ·intro L k
  refine Zb (Zc H R λa H=>Zc H R λa H=>Ze ?_)
  have I:=M.nilS (α:=UInt8) NoB noB I
  obtain rfl:=o_1 k
  have I:=M.fst (l:=[_]) I
  exact p_3 (ZI (Xf H R (ZD H R) (ZD H R) ⟨_,R,xd,R,I.outF (ZK Yo),I.kept⟩))
 intro L k
 refine u_2 (Zz ?_)
 obtain ⟨N,h,O⟩:=p_1 k
 refine ZJ (λa w=>∃ y : Value,Env 42 a [(4,y),(5,vI N.2)] ∧ M (Old n) n w [osl NoB (N.1 : List UInt8) y]) ?_ ?_
 ·obtain ⟨al,t,h⟩:=bix h
  obtain ⟨a2,T,U⟩:=Wj b t.2 -- ^
  obtain ⟨am,an,rfl,ao,ap⟩:=YV T -- ^
  obtain ⟨A,x,h⟩:=bix h
  obtain ⟨a3,W,X⟩:=Wj b x.2 -- ^
  obtain ⟨aq,u64,rfl,a9,ar⟩:=YV W -- ^
  refine Z9 [29,30,31,32,33,34,35,36,37,38,39,40] Yt R R (by decide) R H I (qsP (λz=>Zx z.E Za ld R ZF R (z.M.ra0) cq (kr0 R)) (qsP (λz=>Zg z.E Za ld R (Yn) (kr0 R)) (qsP (λz=>Zy (v:=d) z.E Za ld R XO R (at_2 (z.M.ra0)) (kr0 R)) (q_m (λ_=>R) (qsP (λz=>Yu z.E Za ld R R o_3 Yf (z.M.rd b) t.1 (kr0 R)) (qsP (λz=>Zx z.E Za ld R Yf R (z.M.atk U (VZ b t.2)) cq (kr0 R)) (qsP (λz=>Zg z.E Za ld R (Yn) (kr0 R)) (qsP (λz=>Zy (v:=d) z.E Za ld R XO R (at_2 (z.M.ra0)) (kr0 R)) (q_m (λ_=>R) (qsP (λz=>Yu z.E Za ld R R o_3 Yf (z.M.rd b) x.1 (kr0 R)) (qsP (λz=>Zg z.E Za ld R (Uy) (kr0 R)) (qsP (λz=>Zy (v:=u64) z.E Za ld R X7 R (at_4 (z.M.atk X (VZ b x.2))) (kr0 R)) qs0)))))))))))) ?_
  ·intro a w u H I
   obtain ⟨au,av,h⟩:=p_1 h
   refine Zp H R Zhb (KE _ m c (I.rdo i) d (I.rdo b) e (I.rdo j) al am (I.rdo ao) an (I.rdo ap) A.Body u64 (I.rdo ar) au av) ?_
   rintro aw w a ⟨_,rfl,hFr,hK⟩ H
   have I:=I.add hK hFr
   refine Zc H R λa H=>Zc H R λa H=>Zj ?_
   obtain rfl:=o_1 h
   refine Zm ?_
   have I:=M.fst (l:=[_]) I
   exact ⟨aw,H.s,I⟩
 rintro a w ⟨y,H,I⟩
 obtain rfl:=o_1 O
 exact p_3 (Xf H R (ZD H R) (ZD H R) ⟨_,R,y,R,I.outF (ZK Yo),I.kept⟩)
def TD (b : GVault) (h : V16) (c : Int) : Option (Fl Int (Fl Unit Bool)) :=
 if decide (c < (b.Records.length : Int)) then (((idx b.Records c).bind λd=>if d.Version == (wr ((b.Keys.length : Int) - 1)) then ((idx b.Records c).bind λe=>some (decide (e.Nonce = h))) else (some false) : Option (Bool)).bind λf=>if f then (some (Fl.ex (Fl.ex true))) else (some (Fl.nx (wr (c + 1))))) else (some (Fl.ex (Fl.nx ())))
def UR (b : GVault) (c : V16) : Option (Bool) :=
 (ZQ (TD b c) 0).bind λd=>d.el (λe=>some false) (λr=>some r)
theorem HW (n : World) (m : GVault) (d : Value) (o : Ro n m.Keys [d]) (f : Value) (c : Ro n m.Records [f]) (i : Value) (U : Ro n m.Events [i]) (B : V16) (r : Bool) (J : UR m B = some r) :
  Calls prog 150 [vcV d f i m,Value.agg (enc B).toArray].toArray n (Rt n (vT r)):=by
 refine ce func150 ?_
 intro a H
 have I:=M.start n
 unfold UR at J
 refine Zb (Z2 (cs:=cV d f i m) H I Za ld R R λO w a I H=>Z2 (cs:=enc B) H I Za ld R R λT w a I H=>Zc H R λa H=>Ze (s_2 (Zb (Zc H R λa H=>Ze ?_))))
 obtain ⟨j5,W,x⟩:=p_1 J
 refine Z7 (λa w=>∃ Z : Unit,j5 = Fl.nx Z ∧ Env 34 a [] ∧ M (Old n) n w []) ?_ ?_
 ·refine p_2 ?_
  refine ZR (λ(X : Int) a w=>Env 34 a [(2,ptr O 0),(3,ptr T 0),(5,vI X)] ∧ M (Old n) n w [raw T (enc B),raw O (cV d f i m)]) W ⟨H.s,I⟩ ?_
  rintro X a w ⟨H,I⟩ ad h y
  unfold TD at h
  refine s_2 (Zb (Zd H R λa H=>Zl H R (Yn) λa H=>ZB (v:=f) H R XO R (at_2 I.ra1) λa H=>YE H R o_3 (I.rd c) λa H=>Zn H R R R λa H=>Ze ?_))
  refine c_if H R h ?_ ?_
  ·intro C h
   refine u_2 (Zz (s_2 (p_2 ?_)))
   obtain ⟨Y,e,j⟩:=p_1 h
   refine ZJ (λa w=>Env 34 a [(2,ptr O 0),(3,ptr T 0),(5,vI X),(33,vT Y)] ∧ M (Old n) n w [raw T (enc B),raw O (cV d f i m)]) ?_ ?_
   ·obtain ⟨q,k,e⟩:=bix e
    obtain ⟨aa,F,A⟩:=Wj c k.2 -- ^
    obtain ⟨ae,af,rfl,ag,ah⟩:=YV F -- ^
    refine Ys (q.Version == (wr ((m.Keys.length : Int) - 1))) (λb=>?_) (λb=>?_)
    ·have e:=Zt e b
     obtain ⟨G,t,e⟩:=bix e
     obtain ⟨ab,K,L⟩:=Wj c t.2 -- ^
     obtain ⟨ai,aj,rfl,ak,al⟩:=YV K -- ^
     refine Z9 [13,14,15,16,17,18,19,20,21,22,23,24,25,26,27,28,29,30,31,32,33] Yt R R (by decide) R H I (qsP (λz=>Zg z.E Za ld R (Yn) (kr0 R)) (qsP (λz=>Zy (v:=f) z.E Za ld R XO R (at_2 (z.M.ra1)) (kr0 R)) (q_m (λ_=>R) (qsP (λz=>Yu z.E Za ld R R o_3 Yf (z.M.rd c) k.1 (kr0 R)) (qsP (λz=>Zg z.E Za ld R (Qe) (kr0 R)) (qsP (λz=>Zy (v:=(vI q.Version)) z.E Za ld R ty2 R (at_1 (z.M.atk A (VZ c k.2))) (kr0 R)) (qsP (λz=>Zg z.E Za ld R (XA) (kr0 R)) (qsP (λz=>Zy (v:=d) z.E Za ld R T0 R (at_0 (z.M.ra1)) (kr0 R)) (qsP (λz=>WE z.E Za ld R s_3 (z.M.rd o) (kr0 R)) (qsP (v:=(vI (wr ((m.Keys.length : Int) - 1)))) (λz=>Z8 z.E Za ld R R R (kr0 R)) (qsP (λz=>Z8 z.E Za ld R R R (kr0 R)) (q_m (λ_=>R) (qsP (λz=>Zg z.E (Zi z.E R (lkb R b)) (by decide) R (Yn) (kr0 R)) (qsP (λz=>Zy (v:=f) z.E (Zi z.E R (lkb R b)) (by decide) R XO R (at_2 (z.M.ra1)) (kr0 R)) (qsP (λz=>Zo z.E (Zi z.E R (lkb R b)) (by decide) R (kr0 R)) (qsP (λz=>Yu z.E (Zi z.E R (lkb R b)) (by decide) R R o_3 Yf (z.M.rd c) t.1 (kr0 R)) (qsP (λz=>Zg z.E (Zi z.E R (lkb R b)) (by decide) R (JT) (kr0 R)) (qsP (λz=>Zx z.E (Zi z.E R (lkb R b)) (by decide) R ZE R (at_2 (z.M.atk L (VZ c t.2))) (u_1 _) (kr0 R)) (qsP (λz=>Zx z.E (Zi z.E R (lkb R b)) (by decide) R ZE R (z.M.ra0) (u_1 _) (kr0 R)) (qsP (λz=>kR z.E (Zi z.E R (lkb R b)) (by decide) R R (WJ u_3 ty5 R false R (by decide) (XZ t_3)) (by decide) (by kernel_rfl) (kr0 R)) (qsP (λz=>UM z.E Za ld (lkb R b) R (kr0 R)) qs0))))))))))))))))))))) ?_
     ·intro a w u H I
      refine Zj ?_
      obtain rfl:=o_1 e
      refine Zm ?_
      exact ⟨H.s,I⟩
    have e:=Zs e b
    refine Z9 [13,14,15,16,17,18,19,20,21,22,23,24,25,26,27,28,29,30,31,32,33] Yt R R (by decide) R H I (qsP (λz=>Zg z.E Za ld R (Yn) (kr0 R)) (qsP (λz=>Zy (v:=f) z.E Za ld R XO R (at_2 (z.M.ra1)) (kr0 R)) (q_m (λ_=>R) (qsP (λz=>Yu z.E Za ld R R o_3 Yf (z.M.rd c) k.1 (kr0 R)) (qsP (λz=>Zg z.E Za ld R (Qe) (kr0 R)) (qsP (λz=>Zy (v:=(vI q.Version)) z.E Za ld R ty2 R (at_1 (z.M.atk A (VZ c k.2))) (kr0 R)) (qsP (λz=>Zg z.E Za ld R (XA) (kr0 R)) (qsP (λz=>Zy (v:=d) z.E Za ld R T0 R (at_0 (z.M.ra1)) (kr0 R)) (qsP (λz=>WE z.E Za ld R s_3 (z.M.rd o) (kr0 R)) (qsP (v:=(vI (wr ((m.Keys.length : Int) - 1)))) (λz=>Z8 z.E Za ld R R R (kr0 R)) (qsP (λz=>Z8 z.E Za ld R R R (kr0 R)) (q_m (λ_=>R) (qsP (λz=>Zf z.E R (lkb R b) R (by decide) (kr0 R)) (qsP (λz=>Zf z.E R (lkb R b) R (by decide) (kr0 R)) (qsP (λz=>Zf z.E R (lkb R b) R (by decide) (kr0 R)) (qsP (λz=>Zf z.E R (lkb R b) R (by decide) (kr0 R)) (qsP (λz=>Zf z.E R (lkb R b) R (by decide) (kr0 R)) (qsP (λz=>Zf z.E R (lkb R b) R (by decide) (kr0 R)) (qsP (λz=>Zf z.E R (lkb R b) R (by decide) (kr0 R)) (qsP (λz=>Zf z.E R (lkb R b) R (by decide) (kr0 R)) (qsP (λz=>Um z.E Za ld (lkb R b) R (kr0 R)) qs0))))))))))))))))))))) ?_
    ·intro a w u H I
     refine Zj ?_
     obtain rfl:=o_1 e
     refine Zm ?_
     exact ⟨H.s,I⟩
   rintro a w ⟨H,I⟩
   refine c_if H R j ?_ ?_
   ·intro N j
    refine Zb (Zc H R λa H=>Ze ?_)
    obtain rfl:=y _ (ois j)
    obtain rfl:=o_1 x
    exact p_3 (Xl (ZI (ZI (Xl (ZI (ZI (kr1 H R R I.kept)))))))
   intro N j
   refine u_2 (YA (Zz (t_1 (Zd H R λa H=>Zn H R R R λa H=>Zc H R λa H=>Zj (Zm ?_)))))
   exact ⟨_,ois j,H.s,I⟩
  intro C h
  refine o_4 (Zu (Zu (YQ ?_)))
  obtain rfl:=y _ (ois h)
  refine Zm ?_
  have I:=M.fst (l:=[]) I
  exact ⟨(),R,H.sub trivial,I⟩
 rintro a w ⟨Z,ht,H,I⟩
 subst ht
 have x:=Kv x
 refine Zz (Zb (Zc H R λa H=>Ze ?_))
 obtain rfl:=o_1 x
 exact p_3 (kr1 H R R I.kept)
def Tx (c : GVault) (f : Int) (j : V16) : Option (GVault × Int) :=
 (Un c f).bind λk=>if k.2 != 0 then (some ((⟨[],0,[],[],Vector.replicate 32 (0 : UInt8)⟩ : GVault),k.2)) else ((UR c j).bind λl=>if l then (some ((⟨[],0,[],[],Vector.replicate 32 (0 : UInt8)⟩ : GVault),5)) else (if (c.Events.length : Int) == 60 then (some ((⟨[],0,[],[],Vector.replicate 32 (0 : UInt8)⟩ : GVault),3)) else ((Vv c).bind λb=>(Ve c f).bind λd=>(idx b.Records d).bind λe=>(idx b.Records d).bind λn=>(XQ c (⟨f,wr ((c.Keys.length : Int) - 1),j,e.Label,[],Vector.replicate 32 (0 : UInt8)⟩ : GRecord) k.1).bind λh=>(WQ c (⟨f,wr ((c.Keys.length : Int) - 1),j,e.Label,h,Vector.replicate 32 (0 : UInt8)⟩ : GRecord)).bind λi=>(idx b.Records d).bind λo=>(XH (⟨b.Keys,b.Next,b.Records.set (d).toNat (⟨f,wr ((c.Keys.length : Int) - 1),j,e.Label,h,i⟩ : GRecord),b.Events,b.Head⟩ : GVault) 4 f i).bind λm=>some (m,0))))
theorem yf (W : World) (n : GVault) (h : Value) (q : Ro W n.Keys [h]) (j : Value) (A : Ro W n.Records [j]) (m : Value) (y : Ro W n.Events [m]) (B : Int) (C : V16) (r : GVault × Int) (J : Tx n B C = some r) :
  Calls prog 64 [vcV h j m n,vI B,Value.agg (enc C).toArray].toArray W (e_r λv w'=>(∃ y1 y2 y3 : Value,v = (Value.tuple [vcV y1 y2 y3 r.1,vI r.2].toArray) ∧ Fr W w' [osl NoB (r.1.Keys : List V16) y1,osl NoB (r.1.Records : List GRecord) y2,osl NoB (r.1.Events : List GEvent) y3] ∧ Kept (Old W) W w')):=by
 refine ce func64 ?_
 intro a H
 have I:=M.start W
 unfold Tx at J
 refine Zb (Z2 (cs:=cV h j m n) H I Za ld R R λb1 w a I H=>Z2 (cs:=enc C) H I Za ld R R λb3 w a I H=>Zw H I ZF λb5 w a I H=>Zc H R λa H=>Ze (Zb (Zq H R ZF R I.ra2 cq λa H=>Zd H R ?_))); intro a H
 obtain ⟨r7,e8,J⟩:=p_1 J
 refine Zp H R (cbm func58) (Ap _ n h (I.rdo q) j (I.rdo A) m (I.rdo y) B r7 e8) ?_
 rintro v w a ⟨u9,rfl,hFr,hK⟩ H
 have I:=I.add hK hFr
 refine Zd H R λa H=>ZM H Za ld R R λa H=>ZM H Za ld R R λa H=>Zc H R λa H=>Zc H R λa H=>Ze (s_2 (p_2 (Zb (Zd H R λa H=>Zn H R R R λa H=>Zc H R λa H=>Ze ?_))))
 refine c_if H R J ?_ ?_
 ·intro ad J
  refine Zb (ZY (parts:=[]) (vs:=[]) (cs:=cat xa) H Za ld R R ZF Kd Yp λa H=>Zd H R ?_); intro a H
  have I:=I.pl1
  refine Zk (seg:=cat xa) (cs':=cat xa) H I Za R R R ZF cq (q_1 cq cq) (ZC (cc1 ZN (cc1 (s_1 xj) (cc1 ZN (cc1 ZN (cc1 (s_1 _) cc0)))))) (q_2 cq cq) λw a I H=>Zc H R λa H=>Ze ?_
  have I:=M.nilS (α:=GEvent) NoB noB (M.nilS (α:=GRecord) NoB noB (M.nilS (α:=V16) NoB noB I))
  obtain rfl:=o_1 J
  have ae : Yb prog _ _ (.cell 6 79) _:=ZG H R ZF R I.ra3 cq R
  have I:=M.fst (l:=[_,_,_]) I.pl1.pl2
  exact p_3 (Xl (ZI (Xf H R ae (ZD H R) ⟨_,R,xd,xd,xd,R,I.outF (ZK (ZK (ZK Yo))),I.kept⟩)))
 intro ad J
 refine Zb (Zq H R ZF R I.ra3 cq λa H=>Zq H R ZE R I.ra2 (u_1 _) ?_); intro a H
 obtain ⟨aw,ax,J⟩:=p_1 J
 refine c_k H I R (cbm func150) (HW _ n h (I.rdo q) j (I.rdo A) m (I.rdo y) C aw ax) ?_; intro w a I H
 refine Zc H R λa H=>Ze ?_
 refine c_if H R J ?_ ?_
 ·intro af J
  refine Zb (ZY (parts:=[]) (vs:=[]) (cs:=cat xa) H Za ld R R ZF Kd Yp ?_); intro a H
  have I:=I.pl1
  refine Zk (seg:=cat xa) (cs':=cat xa) H I Za R R R ZF cq (q_1 cq cq) (ZC (cc1 ZN (cc1 (s_1 xj) (cc1 ZN (cc1 ZN (cc1 (s_1 _) cc0)))))) (q_2 cq cq) λw a I H=>Zc H R λa H=>Ze ?_
  have I:=M.nilS (α:=GEvent) NoB noB (M.nilS (α:=GRecord) NoB noB (M.nilS (α:=V16) NoB noB I))
  obtain rfl:=o_1 J
  have ag : Yb prog _ _ (.cell 6 79) _:=ZG H R ZF R I.ra3 cq R
  have I:=M.fst (l:=[_,_,_]) I.pl1.pl2
  exact p_3 (Xl (ZI (Xf H R ag (ZD H R) ⟨_,R,xd,xd,xd,R,I.outF (ZK (ZK (ZK Yo))),I.kept⟩)))
 intro af J
 refine Zb (Zl H R (XU) λa H=>ZB (v:=m) H R Qy R (at_3 I.ra3) λa H=>YE H R p_4 (I.rd y) λa H=>Zn H R R R λa H=>Zc H R λa H=>Ze ?_)
 refine c_if H R J ?_ ?_
 ·intro ah J
  refine Zb (ZY (parts:=[]) (vs:=[]) (cs:=cat xa) H Za ld R R ZF Kd Yp ?_); intro a H
  have I:=I.pl1
  refine Zk (seg:=cat xa) (cs':=cat xa) H I Za R R R ZF cq (q_1 cq cq) (ZC (cc1 ZN (cc1 (s_1 xj) (cc1 ZN (cc1 ZN (cc1 (s_1 _) cc0)))))) (q_2 cq cq) λw a I H=>Zc H R λa H=>Ze ?_
  have I:=M.nilS (α:=GEvent) NoB noB (M.nilS (α:=GRecord) NoB noB (M.nilS (α:=V16) NoB noB I))
  obtain rfl:=o_1 J
  have ai : Yb prog _ _ (.cell 6 79) _:=ZG H R ZF R I.ra3 cq R
  have I:=M.fst (l:=[_,_,_]) I.pl1.pl2
  exact p_3 (Xl (ZI (Xf H R ai (ZD H R) ⟨_,R,xd,xd,xd,R,I.outF (ZK (ZK (ZK Yo))),I.kept⟩)))
 intro ah J
 refine u_2 (YA (Zz (s_2 ?_)))
 obtain ⟨i,ay,J⟩:=p_1 J
 obtain ⟨Y,az,J⟩:=p_1 J
 refine Yl (its:=[osl NoB (r7.1 : List UInt8) u9,raw b5 xi,raw b3 (enc C),raw b1 (cV h j m n)]) (mk:=([mkO 1 (λv=>own NoB i (Value.cells v).toList),mkO 5 (λv=>XS v xi)] : Mk)) [35,36,37,38,39,10] Yt R R (by decide) R H (λu=>M.qE (M.qE (M.q0 I.drew u) emO) emO) (qsP (λz=>Zx z.E Za ld R ZF R (z.M.ra3) cq (kr0 R)) (qsM (pr:=λv=>∃ cs,v = .agg cs) ?_ (qsP (λz=>Zx z.E Za ld R ZF R (z.M.ra3) cq (kr0 R)) (q_m (λ_=>R) (qsP (λz=>Yd z.E Za ld R Zhk (K6 _ n h (z.M.rdo q) j (z.M.rdo A) m (z.M.rdo y) B Y az) (kc R)) (qsM (pr:=λv=>True) ?_ qs0)))))) ?_
 ·intro a w O D z
  have H:=z.E
  have hD : D 1 = false:=z.F
  have hM0:=z.M
  have I:=z.M
  refine Zp H R Zdr (KP _ n h (I.rdo q) j (I.rdo A) m (I.rdo y) i ay) ?_
  rintro _ w a ⟨bh,bi,u32,rfl,hFr,hK⟩ H
  have I:=V4 (x:=i) (hM0.add hK hFr) sio sio sio
  exact ⟨_,_,R,H,M.qFill (mk1:=[]) (mk2:=[_]) (f:=(λv=>own NoB i (Value.cells v).toList)) I R hD,⟨_,R⟩⟩
 ·intro a w O D z
  have H:=z.E
  have hD : D 5 = false:=z.F
  have I:=z.M
  refine Zw H I ZF ?_; intro bj w a I H
  have I:=I.pack1 (it:=XS _ xi) (λw w' fp ⟨b',e,k⟩ hb=>⟨b',e,Yz w w' fp k hb⟩) (λfp k=>⟨_,R,k⟩)
  exact ⟨_,_,R,H,M.qFill (mk1:=[_]) (mk2:=[]) (f:=λv=>XS v xi) I R hD,trivial⟩
 intro a w O D H I hG N
 have d1:=N 1 (by decide)
 have d5:=N 5 (by decide)
 have I:=((I.sure (pre:=[_,_,_,_]) d1).sure (pre:=[_,_,_,_,_]) d5).pl
 obtain ⟨_,⟨aj,ak,_⟩,_⟩:=I.head
 have I:=I.pack1 Yz (it:=raw aj xi) (λfp ⟨b2,Z,k2⟩=>by rw [ak] at Z; simp [ptr] at Z; subst Z; exact k2)
 obtain ⟨b,c,d,a1,_,_,_⟩:=Xx (I.rn5)
 have X : (O 1) = (vcV b c d i):=Jw a1 (hG 1 d1 _ R).2
 have I:=I.pl5
 have I:=V9 (I.recown (congrArg (λv=>(Value.cells v).toList) X))
 have H:=H.setq (t:=36) R X
 have H:=H.setq (t:=10) R ak
 have I:=I.pl3
 refine Zk (seg:=cV b c d i) (cs':=cV b c d i) H I Za R R R ZF cq (q_1 cq cq) (ZC (cc1 (t_2 (I.rn1)) (cc1 (s_1 (i.Next : Int)) (cc1 (t_2 (I.rn2)) (cc1 (t_2 (I.rn3)) (cc1 (s_1 _) cc0)))))) (q_2 cq cq) λw a I H=>Zc H R λa H=>Zj (Zz (s_2 ?_))
 have I:=I.pl2.toOsl0
 obtain ⟨G,al,J⟩:=bix J
 obtain ⟨be,I,_⟩:=I.open1 noB al.2
 obtain ⟨_,hx,_⟩:=I.head
 obtain ⟨o,am,_,_,rfl,_,_,_⟩:=Q8 hx
 have I:=T3 I
 obtain ⟨bm,an,J⟩:=bix J
 refine Yl (its:=[own NoB (G.Label : xg) [o],own NoB (G.Body : xg) [am],KZ NoB (i.Records : List GRecord) (Y).toNat c (cR o am G),raw aj (cV b c d i),own NoB (i.Keys : xv) [b],own NoB (i.Events : xu) [d],osl NoB (r7.1 : List UInt8) u9,raw b5 xi,raw b3 (enc C),raw b1 (cV h j m n)]) (mk:=([mkO 13 (λv=>XS v xh)] : Mk)) [40,41,42,43,44,45,46,47,48,49,50,51,52,12] Yt R R (by decide) R H (λu=>M.qE (M.q0 I.drew u) emO) (q_m (λ_=>R) (qsP (λz=>Zg z.E Za ld R (XA) (kr0 R)) (qsP (λz=>Zy (v:=h) z.E Za ld R T0 R (at_0 (z.M.ra9)) (kr0 R)) (qsP (λz=>WE z.E Za ld R s_3 (z.M.rd q) (kr0 R)) (qsP (v:=(vI (wr ((n.Keys.length : Int) - 1)))) (λz=>Z8 z.E Za ld R R R (kr0 R)) (qsP (λz=>Zx z.E Za ld R ZE R (z.M.ra8) (u_1 _) (kr0 R)) (qsP (λz=>Zg z.E Za ld R (Yn) (kr0 R)) (qsP (λz=>Zy (v:=c) z.E Za ld R XO R (at_2 (z.M.ra3)) (kr0 R)) (q_m (λ_=>R) (qsP (λz=>Aw (pre:=[_,_]) z.E z.M Za ld R R o_3 Yf an.1 (kr0 R)) (qsP (λz=>Zg z.E Za ld R (Ko) (kr0 R)) (qsP (λz=>Zy (v:=o) z.E Za ld R X7 R (at_3 (z.M.holeAt (pre:=[_,_]))) (kr0 R)) (qsP (λz=>ZY (parts:=[(0,.tmp 40),(1,.tmp 44),(2,.tmp 45),(3,.tmp 51)]) (vs:=[(0,vI B),(1,vI (wr ((n.Keys.length : Int) - 1))),(2,Value.agg (enc C).toArray),(3,o)]) (cs:=cat [[vI B],[vI (wr ((n.Keys.length : Int) - 1))],enc C,[o],[xd],enc xc]) z.E Za ld R R Yf pl98 (ZT (pre:=[]) (seg:=[vI 0]) (seg':=[vI B]) (post:=[[vI 0],enc xb,[xd],[xd],enc xc]) R cl0 R R R (ZT (pre:=[[vI B]]) (seg:=[vI 0]) (seg':=[vI (wr ((n.Keys.length : Int) - 1))]) (post:=[enc xb,[xd],[xd],enc xc]) R ck R R R (ZT (pre:=[[vI B],[vI (wr ((n.Keys.length : Int) - 1))]]) (seg:=enc xb) (seg':=enc C) (post:=[[xd],[xd],enc xc]) R ck (u_1 _) (u_1 _) R (ZT (pre:=[[vI B],[vI (wr ((n.Keys.length : Int) - 1))],enc C]) (seg:=[xd]) (seg':=[o]) (post:=[[xd],enc xc]) R ck R R (ZX (z.M.rn0)) Yp)))) (kr0 R)) (qsM (pr:=λv=>True) ?_ qs0)))))))))))))) ?_
 ·intro a w ao D z
  have H:=z.E
  have hD : D 13 = false:=z.F
  have I:=z.M
  refine Zw H I Yf ?_; intro bn w a I H
  have I:=I.pack1 (it:=XS _ xh) (λw w' fp ⟨b',e,k⟩ hb=>⟨b',e,Yz w w' fp k hb⟩) (λfp k=>⟨_,R,k⟩)
  exact ⟨_,_,R,H,M.qFill (mk1:=[]) (mk2:=[]) (f:=λv=>XS v xh) I R hD,trivial⟩
 intro a w ao D H I hG N
 have a2:=N 13 (by decide)
 have I:=(I.sure (pre:=[_,_,_,_,_,_,_,_,_,_]) a2).pl
 obtain ⟨_,⟨a3,ap,_⟩,_⟩:=I.head
 have I:=I.pack1 Yz (it:=raw a3 xh) (λfp ⟨b2,Z,k2⟩=>by rw [ap] at Z; simp [ptr] at Z; subst Z; exact k2)
 have H:=H.setq (t:=12) R ap
 refine Zk (seg:=cat [[vI B],[vI (wr ((n.Keys.length : Int) - 1))],enc C,[o],[xd],enc xc]) (cs':=cat [[vI B],[vI (wr ((n.Keys.length : Int) - 1))],enc C,[o],[xd],enc xc]) H I Za R R R Yf cq (q_1 cq cq) (ZC (cc1 (s_1 (B : Int)) (cc1 (s_1 (wr ((n.Keys.length : Int) - 1) : Int)) (cc1 (s_1 _) (cc1 (t_2 (I.rn1)) (cc1 ZN (cc1 (s_1 _) cc0))))))) (q_2 cq cq) λw a I H=>Zj (Zz (Zb (Zq H R ZF R I.ra10 cq λa H=>Zq H R Yf R I.ra0 cq λa H=>Zd H R ?_))); intro a H
 obtain ⟨T,a4,J⟩:=p_1 J
 refine Zp H R Zhb (KE _ n h (I.rdo q) j (I.rdo A) m (I.rdo y) (⟨B,wr ((n.Keys.length : Int) - 1),C,G.Label,[],xc⟩ : GRecord) o (I.rn1) xd qp r7.1 u9 (I.sl7) T a4) ?_
 rintro K w a ⟨_,rfl,hFr,hK⟩ H
 have I:=I.add hK hFr
 refine Zl H R (Uy) ?_; intro a H
 have I:=I.pl1
 refine Zk (seg:=[K]) H I Za R R (ZX (I.sl1)) X7 R (YN (pre:=[[vI B],[vI (wr ((n.Keys.length : Int) - 1))],enc C,[o]]) ck R) (t_2 (I.sl1)) (Z4 (pre:=[[vI B],[vI (wr ((n.Keys.length : Int) - 1))],enc C,[o]]) ck R) λw a I H=>Ze (Zb (Zq H R ZF R I.ra11 cq λa H=>Zq H R Yf R I.ra0 cq ?_)); intro a H
 obtain ⟨L,a5,J⟩:=p_1 J
 refine c_k H I R Zhm (JS _ n h (I.rdo q) j (I.rdo A) m (I.rdo y) (⟨B,wr ((n.Keys.length : Int) - 1),C,G.Label,T,xc⟩ : GRecord) o (I.rn2) K (I.sl1) L a5) ?_; intro w a I H
 refine Zl H R (Tl) λa H=>Zk (seg:=enc L) H I Za R R R Yq (u_1 _) (YN (pre:=[[vI B],[vI (wr ((n.Keys.length : Int) - 1))],enc C,[o],[K]]) ck flq) (s_1 _) (Z4 (pre:=[[vI B],[vI (wr ((n.Keys.length : Int) - 1))],enc C,[o],[K]]) ck flq) λw a I H=>Ze (Zb (Zl H R (Yn) λa H=>ZB (v:=c) H R XO R (at_2 I.ra5) λa H=>Zd H R λa H=>Zq H R Yf R I.ra0 cq ?_)); intro a H
 obtain ⟨bo,aq,J⟩:=bix J
 refine Aw (pre:=[_,_,_,_]) H I Za ld R R o_3 Yf aq.1 ?_; intro a H
 have I:=I.pl4
 refine jN (k0:=0) (seg:=cat [[vI B],[vI (wr ((n.Keys.length : Int) - 1))],enc C,[o],[K],enc L]) (cs':=cat [[vI B],[vI (wr ((n.Keys.length : Int) - 1))],enc C,[o],[K],enc L]) H I noB Za R R R Yf cq (ZC (cc1 (s_1 (B : Int)) (cc1 (s_1 (wr ((n.Keys.length : Int) - 1) : Int)) (cc1 (s_1 _) (cc1 (t_2 (I.rn3)) (cc1 (t_2 (I.sl2)) (cc1 (s_1 _) cc0))))))) (q_1 cq cq) (q_2 cq cq) ?_; intro w a I H
 have I:=(VP (x:=(⟨B,wr ((n.Keys.length : Int) - 1),C,G.Label,T,L⟩ : GRecord)) I.pl11.pl11.pl11.pl11.pl11.pl11.pl11.pl11.pl9.pl9.pl10.pl11 siw sio).close1 noB
 refine Ze (Zb (Zq H R ZF R I.ra3 cq λa H=>Zd H R λa H=>Zl H R (Tl) λa H=>Zq H R Yq R (at_5 I.ra1) (u_1 _) ?_)); intro a H
 have I:=I.pl4.toOsl0.pl5.toOsl0.pl2.pl2
 have hM0:=I
 obtain ⟨U,a6,J⟩:=p_1 J
 refine Zp H R Zea (Kw _ _ _ _ (⟨i.Keys,i.Next,i.Records.set (Y).toNat (⟨B,wr ((n.Keys.length : Int) - 1),C,G.Label,T,L⟩ : GRecord),i.Events,i.Head⟩ : GVault) b c d 4 B L I U a6) ?_
 rintro v w a ⟨aa,ab,ac,rfl,I⟩ H
 have I:=I.pl7
 refine Zk (seg:=cV aa ab ac U) (cs':=cV aa ab ac U) H I Za R R R ZF cq (q_1 cq cq) (ZC (cc1 (t_2 (I.sl1)) (cc1 (s_1 (U.Next : Int)) (cc1 (t_2 (I.sl2)) (cc1 (t_2 (I.sl3)) (cc1 (s_1 _) cc0)))))) (q_2 cq cq) λw a I H=>Zc H R λa H=>Ze ?_
 obtain rfl:=o_1 J
 have ar : Yb prog _ _ (.cell 6 79) _:=ZG H R ZF R I.ra0 cq R
 have I:=M.fst (l:=[_,_,_]) I.pl3.pl3.pl3
 exact p_3 (Xf H R ar (ZD H R) ⟨_,R,aa,ab,ac,R,I.outF (ZK (ZK (ZK Yo))),I.kept⟩)
def Ud (c : (List UInt8)) (d : (Int × Int)) : Option ((Int × Int) × (List UInt8)) :=
 (Z5 c (d.1,d.2) 4).bind λb=>if b.2 == 0 then (some ((b.1.1,b.1.2),([] : List UInt8))) else (if b.2 == 1 then (some ((b.1.1,b.1.2),([97] : List UInt8))) else (if b.2 == 2 then (some ((b.1.1,b.1.2),([98,99] : List UInt8))) else (if b.2 == 3 then (some ((b.1.1,b.1.2),([1,2,3] : List UInt8))) else (none))))
theorem HG (St : Nat → Prop) (W z : World) (A : Item) (n : Nat) (h : xg) (b : Value) (t : Rep.sat St W h [b] []) (x : xy) (I : M St W z [raw n (cat [[b],[vI x.1],[Value.int .u64 x.2]]),A]) (r : xy × xg) (J : Ud h x = some r) :
  Calls prog 147 [ptr n 0].toArray z (e_r λv w'=>(∃ B : Value,v = B ∧ M St W w' [raw n (cat [[b],[vI r.1.1],[Value.int .u64 r.1.2]]),osl NoB (r.2 : List UInt8) B,A])):=by
 refine ce func147 ?_
 intro a H
 unfold Ud at J
 refine Zb (Zc H R λa H=>Ze (Zb (ZL (xs:=[]) (l:=xx) (vs:=[]) H I Za ld R R o_2 ty5 R (by decide) R λk w a I H=>ZL (xs:=[.const (vB 97)]) (l:=([97] : List UInt8)) (vs:=[vB 97]) H I Za ld R R o_2 ty5 R (by decide) R λo w a I H=>ZL (xs:=[.const (vB 98),.const (vB 99)]) (l:=([98,99] : List UInt8)) (vs:=[vB 98,vB 99]) H I Za ld R R o_2 ty5 R (by decide) R λq w a I H=>ZL (xs:=[.const (vB 1),.const (vB 2),.const (vB 3)]) (l:=([1,2,3] : List UInt8)) (vs:=[vB 1,vB 2,vB 3]) H I Za ld R R o_2 ty5 R (by decide) R λu w a I H=>T6 (xs:=[.tmp 3,.tmp 4,.tmp 5,.tmp 6]) (vs:=[k,o,q,u]) H I Za ld R R u_5 X7 (by decide) (Wh (ZX (I.sl3)) (Wh (ZX (I.sl2)) (Wh (ZX (I.sl1)) (Wh (ZX (I.sl0)) H2)))) λC w a I H=>Zd H R ?_))); intro a H
 have I:=M.tailP (m:=[_]) I.pl5
 obtain ⟨j,y,J⟩:=p_1 J
 refine Zp H R Ju (Yh _ _ _ _ n h b t (x.1,x.2) 4 I j y) ?_
 rintro v w a ⟨rfl,I⟩ H
 have I:=M.tailU (m:=[_]) I
 simp only [List.cons_append,List.nil_append] at I
 refine Ys (j.2 == 0) (λc=>?_) (λc=>?_)
 ·have J:=Zt J c
  refine Uh (i:=((0 : Nat) : Int)) H Za ld R (lk R (congrArg vI (eq_of_beq c))) u_5 X7 (by decide) λa H=>ZB (v:=k) H R X7 R (At.cat (pre:=[]) (show At _ _ _ (cat [[k],[o],[q],[u]]) from I.ra1) cl0) λa H=>Zc H R λa H=>Ze ?_
  obtain rfl:=o_1 J
  have I:=((((I.pl6.pl6.pl2.pl6).drop.pl5).drop.pl4).drop.pl3).drop
  exact p_3 (ZV H R (ZD H R) ⟨_,R,k,R,I⟩)
 have J:=Zs J c
 refine Ys (j.2 == 1) (λd=>?_) (λd=>?_)
 ·have J:=Zt J d
  refine Uh (i:=((1 : Nat) : Int)) H Za ld R (lk R (congrArg vI (eq_of_beq d))) u_5 X7 (by decide) λa H=>ZB (v:=o) H R X7 R (At.cat (pre:=[[k]]) (show At _ _ _ (cat [[k],[o],[q],[u]]) from I.ra1) ck) λa H=>Zc H R λa H=>Ze ?_
  obtain rfl:=o_1 J
  have I:=((((I.pl6.pl5.pl2.pl6).drop.pl5).drop.pl4).drop.pl3).drop
  exact p_3 (ZV H R (ZD H R) ⟨_,R,o,R,I⟩)
 have J:=Zs J d
 refine Ys (j.2 == 2) (λe=>?_) (λe=>?_)
 ·have J:=Zt J e
  refine Uh (i:=((2 : Nat) : Int)) H Za ld R (lk R (congrArg vI (eq_of_beq e))) u_5 X7 (by decide) λa H=>ZB (v:=q) H R X7 R (At.cat (pre:=[[k],[o]]) (show At _ _ _ (cat [[k],[o],[q],[u]]) from I.ra1) ck) λa H=>Zc H R λa H=>Ze ?_
  obtain rfl:=o_1 J
  have I:=((((I.pl6.pl4.pl2.pl6).drop.pl5).drop.pl4).drop.pl3).drop
  exact p_3 (ZV H R (ZD H R) ⟨_,R,q,R,I⟩)
 have J:=Zs J e
 refine Ys (j.2 == 3) (λf=>?_) (λf=>?_)
 ·have J:=Zt J f
  refine Uh (i:=((3 : Nat) : Int)) H Za ld R (lk R (congrArg vI (eq_of_beq f))) u_5 X7 (by decide) λa H=>ZB (v:=u) H R X7 R (At.cat (pre:=[[k],[o],[q]]) (show At _ _ _ (cat [[k],[o],[q],[u]]) from I.ra1) ck) λa H=>Zc H R λa H=>Ze ?_
  obtain rfl:=o_1 J
  have I:=((((I.pl6.pl3.pl2.pl6).drop.pl5).drop.pl4).drop.pl3).drop
  exact p_3 (ZV H R (ZD H R) ⟨_,R,u,R,I⟩)
 have J:=Zs J f
 cases J
def Uk (d : (List UInt8)) (b : Int × Int × (List UInt8) × Int) : Option (Fl (Int × Int × (List UInt8) × Int) (Int × Int × (List UInt8))) :=
 if decide (b.2.2.2 > 0) then ((WO d (b.1,b.2.1)).bind λc=>(app 1 b.2.2.1 ([c.2] : List UInt8)).bind λe=>some (Fl.nx (c.1.1,c.1.2,b.2.2.1 ++ ([c.2] : List UInt8),wr (b.2.2.2 - 1)))) else (some (Fl.ex (b.1,b.2.1,b.2.2.1)))
end

end Go.Proofs.YtfhhlkkhcoaapaaGreat
