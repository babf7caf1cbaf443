/- The library's contracts that the walk leans on (the shelf's, laid by its one command in its plain mode): strconv.FormatInt, strconv.ParseInt, the search of one byte. -/
import Derived.Shelf.LaysM
import Derived.Shelf.Strconv.Itoa4
import Derived.Lib.AppendIntMem
import Derived.Shelf.LaysC
import Derived.Shelf.Strconv.ParseIntPublic10
import Derived.Shelf.Strconv.ErrVarParseInt
import Derived.Shelf.Strings.Search2
import Derived.Lib.ParseIntBTie
import Derived.Test.YtkcaldgoomphaaaDoorLibZ
import Derived.Test.YtkcaldgoomphaaaDoorProg
namespace Go.Proofs
open Go.Shelf
def Tryd.laysM173_ren : Go.Shelf.Ren := ⟨fun | 173 => 39 | 246 => 43 | 283 => 53 | 284 => 54 | 285 => 55 | 286 => 56 | 129 => 65 | 317 => 64 | 318 => 66 | 319 => 67 | 320 => 68 | 337 => 70 | 338 => 71 | n => n, fun | 2 => 2 | 3 => 3 | 9 => 9 | 4 => 4 | 171 => 74 | 0 => 0 | 53 => 67 | 37 => 22 | 5 => 5 | 173 => 77 | 212 => 88 | 51 => 79 | 20 => 20 | 213 => 89 | 46 => 60 | 232 => 97 | 233 => 98 | n => n, fun | 17 => 3 | 18 => 4 | 19 => 5 | n => n⟩
theorem Tryd.laysM173 : Go.Proofs.LaysM.n173 Tryd.prog Tryd.laysM173_ren := {
  mixed := by kernel_rfl
  f129 := Tryd.func65.trans (congrArg some (by kernel_rfl))
  f173 := Tryd.func39.trans (congrArg some (by kernel_rfl))
  f246 := Tryd.func43.trans (congrArg some (by kernel_rfl))
  f283 := Tryd.func53.trans (congrArg some (by kernel_rfl))
  f284 := Tryd.func54.trans (congrArg some (by kernel_rfl))
  f285 := Tryd.func55.trans (congrArg some (by kernel_rfl))
  f286 := Tryd.func56.trans (congrArg some (by kernel_rfl))
  f317 := Tryd.func64.trans (congrArg some (by kernel_rfl))
  f318 := Tryd.func66.trans (congrArg some (by kernel_rfl))
  f319 := Tryd.func67.trans (congrArg some (by kernel_rfl))
  f320 := Tryd.func68.trans (congrArg some (by kernel_rfl))
  f337 := Tryd.func70.trans (congrArg some (by kernel_rfl))
  f338 := Tryd.func71.trans (congrArg some (by kernel_rfl))
  t0 := Tryd.underlying0
  a0 := Tryd.isAgg0
  z0 := Tryd.sizeOf0
  v0 := Tryd.zeroValue0
  t2 := Tryd.underlying2
  a2 := Tryd.isAgg2
  z2 := Tryd.sizeOf2
  v2 := Tryd.zeroValue2
  t3 := Tryd.underlying3
  a3 := Tryd.isAgg3
  z3 := Tryd.sizeOf3
  v3 := Tryd.zeroValue3
  t4 := Tryd.underlying4
  a4 := Tryd.isAgg4
  z4 := Tryd.sizeOf4
  v4 := Tryd.zeroValue4
  t5 := Tryd.underlying5
  a5 := Tryd.isAgg5
  z5 := Tryd.sizeOf5
  v5 := Tryd.zeroValue5
  t9 := Tryd.underlying9
  a9 := Tryd.isAgg9
  z9 := Tryd.sizeOf9
  v9 := Tryd.zeroValue9
  t20 := Tryd.underlying20
  a20 := Tryd.isAgg20
  z20 := Tryd.sizeOf20
  v20 := Tryd.zeroValue20
  t37 := Tryd.underlying22
  a37 := Tryd.isAgg22
  z37 := Tryd.sizeOf22
  v37 := Tryd.zeroValue22
  t46 := Tryd.underlying60
  a46 := Tryd.isAgg60
  z46 := Tryd.sizeOf60
  v46 := Tryd.zeroValue60
  t51 := Tryd.underlying79
  a51 := Tryd.isAgg79
  z51 := Tryd.sizeOf79
  v51 := Tryd.zeroValue79
  t53 := Tryd.underlying67
  a53 := Tryd.isAgg67
  z53 := Tryd.sizeOf67
  v53 := Tryd.zeroValue67
  t171 := Tryd.underlying74
  a171 := Tryd.isAgg74
  z171 := Tryd.sizeOf74
  v171 := Tryd.zeroValue74
  t173 := Tryd.underlying77
  a173 := Tryd.isAgg77
  z173 := Tryd.sizeOf77
  v173 := Tryd.zeroValue77
  t212 := Tryd.underlying88
  a212 := Tryd.isAgg88
  z212 := Tryd.sizeOf88
  v212 := Tryd.zeroValue88
  t213 := Tryd.underlying89
  a213 := Tryd.isAgg89
  z213 := Tryd.sizeOf89
  t232 := Tryd.underlying97
  a232 := Tryd.isAgg97
  z232 := Tryd.sizeOf97
  v232 := Tryd.zeroValue97
  t233 := Tryd.underlying98
  a233 := Tryd.isAgg98
  z233 := Tryd.sizeOf98
  v233 := Tryd.zeroValue98
  g17 := by kernel_rfl
  g18 := by kernel_rfl
  g19 := by kernel_rfl
  i0 := by kernel_rfl
  i2 := by kernel_rfl
  i3 := by kernel_rfl
  i4 := by kernel_rfl
  i5 := by kernel_rfl
  i9 := by kernel_rfl
  i20 := by kernel_rfl
  i37 := by kernel_rfl
  i46 := by kernel_rfl
  i51 := by kernel_rfl
  i53 := by kernel_rfl
  i171 := by kernel_rfl
  i173 := by kernel_rfl
  i212 := by kernel_rfl
  i232 := by kernel_rfl
  i233 := by kernel_rfl
  m17 := by kernel_rfl
  m18 := by kernel_rfl
  m19 := by kernel_rfl }
open Go.RowKit Go.Sort Go.Lib in
theorem Tryd.strconv_FormatInt_10 (n : Int) (h0 : -9223372036854775808 ≤ n) (h1 : n ≤ 9223372036854775807) (w : World) (htab : Lib.TabIs Tryd.prog w "internal/strconv.uint64pow10" .u64 Lib.pow10Tab) :
    Calls Tryd.prog 39 #[.int .i64 n, .int .i64 10] w fun e w' => e = .returned (.string ⟨(Lib.itoa n).toArray⟩) ∧ ∃ k os, w' = grow (w.drewN k) os := Any.strconv_FormatInt_10 Tryd.laysM173 n h0 h1 w htab
def Tryd.lays219_ren : Go.Shelf.Ren := ⟨fun | 219 => 40 | 217 => 44 | 225 => 45 | 224 => 46 | 267 => 47 | 266 => 57 | 314 => 58 | n => n, fun | 9 => 9 | 3 => 3 | 4 => 4 | 5 => 5 | 46 => 60 | 146 => 80 | 51 => 79 | n => n, fun | 1 => 0 | n => n⟩
theorem Tryd.lays219 : Go.Proofs.Lays.n219 Tryd.prog Tryd.lays219_ren := {
  mixed := by kernel_rfl
  f217 := Tryd.func44.trans (congrArg some (by kernel_rfl))
  f219 := Tryd.func40.trans (congrArg some (by kernel_rfl))
  f224 := Tryd.func46.trans (congrArg some (by kernel_rfl))
  f225 := Tryd.func45.trans (congrArg some (by kernel_rfl))
  f266 := Tryd.func57.trans (congrArg some (by kernel_rfl))
  f267 := Tryd.func47.trans (congrArg some (by kernel_rfl))
  f314 := Tryd.func58.trans (congrArg some (by kernel_rfl))
  t3 := Tryd.underlying3
  a3 := Tryd.isAgg3
  z3 := Tryd.sizeOf3
  v3 := Tryd.zeroValue3
  t4 := Tryd.underlying4
  a4 := Tryd.isAgg4
  z4 := Tryd.sizeOf4
  v4 := Tryd.zeroValue4
  t5 := Tryd.underlying5
  a5 := Tryd.isAgg5
  z5 := Tryd.sizeOf5
  v5 := Tryd.zeroValue5
  t9 := Tryd.underlying9
  a9 := Tryd.isAgg9
  z9 := Tryd.sizeOf9
  v9 := Tryd.zeroValue9
  t46 := Tryd.underlying60
  a46 := Tryd.isAgg60
  z46 := Tryd.sizeOf60
  v46 := Tryd.zeroValue60
  t51 := Tryd.underlying79
  a51 := Tryd.isAgg79
  z51 := Tryd.sizeOf79
  v51 := Tryd.zeroValue79
  t146 := Tryd.underlying80
  a146 := Tryd.isAgg80
  z146 := Tryd.sizeOf80
  v146 := Tryd.zeroValue80
  g1 := by kernel_rfl }
open Go.RowKit Go.Lib in
theorem Tryd.stringslite_Index_one (s : ByteArray) (c : UInt8) (w : World) :
    Calls Tryd.prog 40 #[.string s, .string ⟨#[c]⟩] w fun e w' => e = .returned (.int .i64 (Lib.indexByte s.data.toList c)) ∧ w' = w := Any.stringslite_Index_one Tryd.lays219 s c w
def Tryd.laysC174_ren : Go.Shelf.Ren := ⟨fun | 174 => 37 | 247 => 41 | 245 => 42 | 287 => 48 | 279 => 49 | 280 => 50 | 281 => 51 | 282 => 52 | 321 => 59 | 322 => 60 | 316 => 61 | 171 => 63 | 205 => 62 | 243 => 69 | 246 => 43 | 283 => 53 | 284 => 54 | 285 => 55 | 286 => 56 | 129 => 65 | 317 => 64 | 318 => 66 | 319 => 67 | 320 => 68 | 337 => 70 | 338 => 71 | n => n, fun | 9 => 9 | 3 => 3 | 2 => 2 | 75 => 55 | 85 => 56 | 4 => 4 | 167 => 66 | 5 => 5 | 53 => 67 | 175 => 68 | 46 => 60 | 168 => 70 | 37 => 22 | 0 => 0 | 210 => 85 | 21 => 21 | 127 => 92 | 145 => 95 | 143 => 93 | 171 => 74 | 173 => 77 | 212 => 88 | 51 => 79 | 20 => 20 | 213 => 89 | 232 => 97 | 233 => 98 | 80 => 99 | n => n, fun | 15 => 1 | 16 => 2 | 17 => 3 | 18 => 4 | 19 => 5 | n => n⟩
theorem Tryd.laysC174 : Go.Proofs.LaysC.n174 Tryd.prog Tryd.laysC174_ren := {
  mixed := by kernel_rfl
  f129 := Tryd.func65.trans (congrArg some (by kernel_rfl))
  f171 := Tryd.func63.trans (congrArg some (by kernel_rfl))
  f174 := Tryd.func37.trans (congrArg some (by kernel_rfl))
  f205 := Tryd.func62.trans (congrArg some (by kernel_rfl))
  f243 := Tryd.func69.trans (congrArg some (by kernel_rfl))
  f245 := Tryd.func42.trans (congrArg some (by kernel_rfl))
  f246 := Tryd.func43.trans (congrArg some (by kernel_rfl))
  f247 := Tryd.func41.trans (congrArg some (by kernel_rfl))
  f279 := Tryd.func49.trans (congrArg some (by kernel_rfl))
  f280 := Tryd.func50.trans (congrArg some (by kernel_rfl))
  f281 := Tryd.func51.trans (congrArg some (by kernel_rfl))
  f282 := Tryd.func52.trans (congrArg some (by kernel_rfl))
  f283 := Tryd.func53.trans (congrArg some (by kernel_rfl))
  f284 := Tryd.func54.trans (congrArg some (by kernel_rfl))
  f285 := Tryd.func55.trans (congrArg some (by kernel_rfl))
  f286 := Tryd.func56.trans (congrArg some (by kernel_rfl))
  f287 := Tryd.func48.trans (congrArg some (by kernel_rfl))
  f316 := Tryd.func61.trans (congrArg some (by kernel_rfl))
  f317 := Tryd.func64.trans (congrArg some (by kernel_rfl))
  f318 := Tryd.func66.trans (congrArg some (by kernel_rfl))
  f319 := Tryd.func67.trans (congrArg some (by kernel_rfl))
  f320 := Tryd.func68.trans (congrArg some (by kernel_rfl))
  f321 := Tryd.func59.trans (congrArg some (by kernel_rfl))
  f322 := Tryd.func60.trans (congrArg some (by kernel_rfl))
  f337 := Tryd.func70.trans (congrArg some (by kernel_rfl))
  f338 := Tryd.func71.trans (congrArg some (by kernel_rfl))
  t0 := Tryd.underlying0
  a0 := Tryd.isAgg0
  z0 := Tryd.sizeOf0
  v0 := Tryd.zeroValue0
  t2 := Tryd.underlying2
  a2 := Tryd.isAgg2
  z2 := Tryd.sizeOf2
  v2 := Tryd.zeroValue2
  t3 := Tryd.underlying3
  a3 := Tryd.isAgg3
  z3 := Tryd.sizeOf3
  v3 := Tryd.zeroValue3
  t4 := Tryd.underlying4
  a4 := Tryd.isAgg4
  z4 := Tryd.sizeOf4
  v4 := Tryd.zeroValue4
  t5 := Tryd.underlying5
  a5 := Tryd.isAgg5
  z5 := Tryd.sizeOf5
  v5 := Tryd.zeroValue5
  t9 := Tryd.underlying9
  a9 := Tryd.isAgg9
  z9 := Tryd.sizeOf9
  v9 := Tryd.zeroValue9
  t20 := Tryd.underlying20
  a20 := Tryd.isAgg20
  z20 := Tryd.sizeOf20
  v20 := Tryd.zeroValue20
  t21 := Tryd.underlying21
  a21 := Tryd.isAgg21
  z21 := Tryd.sizeOf21
  v21 := Tryd.zeroValue21
  t37 := Tryd.underlying22
  a37 := Tryd.isAgg22
  z37 := Tryd.sizeOf22
  v37 := Tryd.zeroValue22
  t46 := Tryd.underlying60
  a46 := Tryd.isAgg60
  z46 := Tryd.sizeOf60
  v46 := Tryd.zeroValue60
  t51 := Tryd.underlying79
  a51 := Tryd.isAgg79
  z51 := Tryd.sizeOf79
  v51 := Tryd.zeroValue79
  t53 := Tryd.underlying67
  a53 := Tryd.isAgg67
  z53 := Tryd.sizeOf67
  v53 := Tryd.zeroValue67
  t75 := Tryd.underlying55
  a75 := Tryd.isAgg55
  z75 := Tryd.sizeOf55
  v75 := Tryd.zeroValue55
  t85 := Tryd.underlying56
  a85 := Tryd.isAgg56
  z85 := Tryd.sizeOf56
  v85 := Tryd.zeroValue56
  t127 := Tryd.underlying92
  a127 := Tryd.isAgg92
  z127 := Tryd.sizeOf92
  v127 := Tryd.zeroValue92
  t143 := Tryd.underlying93
  a143 := Tryd.isAgg93
  z143 := Tryd.sizeOf93
  v143 := Tryd.zeroValue93
  t145 := Tryd.underlying95
  a145 := Tryd.isAgg95
  z145 := Tryd.sizeOf95
  v145 := Tryd.zeroValue95
  t167 := Tryd.underlying66
  a167 := Tryd.isAgg66
  z167 := Tryd.sizeOf66
  v167 := Tryd.zeroValue66
  t168 := Tryd.underlying70
  a168 := Tryd.isAgg70
  z168 := Tryd.sizeOf70
  v168 := Tryd.zeroValue70
  t171 := Tryd.underlying74
  a171 := Tryd.isAgg74
  z171 := Tryd.sizeOf74
  v171 := Tryd.zeroValue74
  t173 := Tryd.underlying77
  a173 := Tryd.isAgg77
  z173 := Tryd.sizeOf77
  v173 := Tryd.zeroValue77
  t175 := Tryd.underlying68
  a175 := Tryd.isAgg68
  z175 := Tryd.sizeOf68
  v175 := Tryd.zeroValue68
  t210 := Tryd.underlying85
  a210 := Tryd.isAgg85
  z210 := Tryd.sizeOf85
  v210 := Tryd.zeroValue85
  t212 := Tryd.underlying88
  a212 := Tryd.isAgg88
  z212 := Tryd.sizeOf88
  v212 := Tryd.zeroValue88
  t213 := Tryd.underlying89
  a213 := Tryd.isAgg89
  z213 := Tryd.sizeOf89
  t232 := Tryd.underlying97
  a232 := Tryd.isAgg97
  z232 := Tryd.sizeOf97
  v232 := Tryd.zeroValue97
  t233 := Tryd.underlying98
  a233 := Tryd.isAgg98
  z233 := Tryd.sizeOf98
  v233 := Tryd.zeroValue98
  g15 := by kernel_rfl
  g16 := by kernel_rfl
  g17 := by kernel_rfl
  g18 := by kernel_rfl
  g19 := by kernel_rfl
  t80 := Tryd.underlying99
  a80 := Tryd.isAgg99
  z80 := Tryd.sizeOf99
  v80 := Tryd.zeroValue99
  i0 := by kernel_rfl
  i2 := by kernel_rfl
  i3 := by kernel_rfl
  i4 := by kernel_rfl
  i5 := by kernel_rfl
  i9 := by kernel_rfl
  i20 := by kernel_rfl
  i21 := by kernel_rfl
  i37 := by kernel_rfl
  i46 := by kernel_rfl
  i51 := by kernel_rfl
  i53 := by kernel_rfl
  i75 := by kernel_rfl
  i80 := by kernel_rfl
  i85 := by kernel_rfl
  i127 := by kernel_rfl
  i143 := by kernel_rfl
  i145 := by kernel_rfl
  i167 := by kernel_rfl
  i168 := by kernel_rfl
  i171 := by kernel_rfl
  i173 := by kernel_rfl
  i175 := by kernel_rfl
  i210 := by kernel_rfl
  i212 := by kernel_rfl
  i232 := by kernel_rfl
  i233 := by kernel_rfl
  m15 := by kernel_rfl
  m16 := by kernel_rfl
  m17 := by kernel_rfl
  m18 := by kernel_rfl
  m19 := by kernel_rfl
  c0 := by kernel_rfl
  c2 := by kernel_rfl
  c3 := by kernel_rfl
  c4 := by kernel_rfl
  c5 := by kernel_rfl
  c9 := by kernel_rfl
  c20 := by kernel_rfl
  c21 := by kernel_rfl
  c37 := by kernel_rfl
  c46 := by kernel_rfl
  c51 := by kernel_rfl
  c53 := by kernel_rfl
  c75 := by kernel_rfl
  c80 := by kernel_rfl
  c85 := by kernel_rfl
  c127 := by kernel_rfl
  c143 := by kernel_rfl
  c145 := by kernel_rfl
  c167 := by kernel_rfl
  c168 := by kernel_rfl
  c171 := by kernel_rfl
  c173 := by kernel_rfl
  c175 := by kernel_rfl
  c210 := by kernel_rfl
  c212 := by kernel_rfl
  c213 := by kernel_rfl
  c232 := by kernel_rfl
  c233 := by kernel_rfl }
open Go.RowKit Go.Lib in
theorem Tryd.strconv_ParseInt_10_at64_ok (s : ByteArray) (hmax : s.size ≤ 9223372036854775806) (v : Int) (h : Lib.parseIntB 64 s.data.toList = .ok v) (w : World) :
    Calls Tryd.prog 37 #[.string s, .int .i64 10, .int .i64 64] w fun e w' => e = .returned (.tuple #[.int .i64 v, .nilIface]) ∧ (w' = w ∨ ∃ t, w' = Lib.bytesWorld w 5 t) := Any.strconv_ParseInt_10_at64_ok Tryd.laysC174 s hmax v h w
open Go.RowKit Go.Lib in
theorem Tryd.strconv_ParseInt_10_at64_syntax_var (s : ByteArray) (hlim : s.size ≤ 281474976710656) (h : Lib.parseIntB 64 s.data.toList = Lib.NumEnd.syntax) (tp : TypeId) (p : Value) (w : World) (hvar : w.var? Tryd.prog "strconv.ErrSyntax" = some #[.iface tp p]) :
    Calls Tryd.prog 37 #[.string s, .int .i64 10, .int .i64 64] w fun e w' => ∃ N, e = .returned (.tuple #[.int .i64 (0), .iface 70 (.pointer (some ⟨N, 0, none⟩))]) ∧ w.heap.size ≤ N ∧ w'.heap[N]? = some (.cells #[.string ⟨#[80, 97, 114, 115, 101, 73, 110, 116]⟩, .string s, .iface tp p] 85 (0, 0)) ∧ Below w.heap.size w w' := Any.strconv_ParseInt_10_at64_syntax_var Tryd.laysC174 s hlim h tp p w hvar
open Go.RowKit Go.Lib in
theorem Tryd.strconv_ParseInt_10_at64_range_var (s : ByteArray) (hlim : s.size ≤ 281474976710656) (h : Lib.parseIntB 64 s.data.toList = .range) (tp : TypeId) (p : Value) (w : World) (hvar : w.var? Tryd.prog "strconv.ErrRange" = some #[.iface tp p]) :
    Calls Tryd.prog 37 #[.string s, .int .i64 10, .int .i64 64] w fun e w' => ∃ N, e = .returned (.tuple #[.int .i64 (Lib.intSat 64 s.data.toList), .iface 70 (.pointer (some ⟨N, 0, none⟩))]) ∧ w.heap.size ≤ N ∧ w'.heap[N]? = some (.cells #[.string ⟨#[80, 97, 114, 115, 101, 73, 110, 116]⟩, .string s, .iface tp p] 85 (0, 0)) ∧ Below w.heap.size w w' := Any.strconv_ParseInt_10_at64_range_var Tryd.laysC174 s hlim h tp p w hvar
end Go.Proofs
namespace Go.Proofs.YtkcaldgoomphaaaDoor
open Go
/-- A variable holds this. -/
def VarT (w : World) (n : String) (c : Array Value) : Prop := w.var? Tryd.prog n = some c
theorem VarT.kept {w w' : World} {n : String} {c : Array Value} (h : VarT w n c) (hk : Kept (Old w) w w') : VarT w' n c := by
  unfold VarT World.var? at *
  cases hg : Tryd.prog.globalNamed n with
  | none => rw [hg] at h; cases h
  | some g =>
    rw [hg] at h
    simp only [Option.bind_some] at h ⊢
    have hlt : g < w.heap.size := by
      rcases Nat.lt_or_ge g w.heap.size with hb | hb
      · exact hb
      · simp [Array.getElem?_eq_none hb] at h
    rw [hk.block g hlt]
    exact h
/-- The table of powers and the two errors lie as the library lays them. -/
structure TabT (w : World) : Prop where
  tab : Lib.TabIs Tryd.prog w "internal/strconv.uint64pow10" .u64 Lib.pow10Tab
  syn : ∃ t p, VarT w "strconv.ErrSyntax" #[.iface t p]
  ran : ∃ t p, VarT w "strconv.ErrRange" #[.iface t p]
theorem TabT.kept {w w' : World} (h : TabT w) (hk : Kept (Old w) w w') : TabT w' := by
  obtain ⟨a, ⟨t, p, b⟩, ⟨u, q, c⟩⟩ := h
  exact ⟨VarT.kept a hk, ⟨t, p, b.kept hk⟩, ⟨u, q, c.kept hk⟩⟩
noncomputable def F_strconv_FormatInt (p0 : Int) (p1 : Int) : Option Str := if p1 = 10 ∧ -9223372036854775808 ≤ p0 ∧ p0 ≤ 9223372036854775807 then some ⟨Lib.itoa p0⟩ else none
theorem c_strconv_FormatInt (w0 : World) (p0 : Int) (p1 : Int) (hT : TabT w0) (r : Str) (hF : F_strconv_FormatInt p0 p1 = some r) :
    Calls Tryd.prog 39 [vI p0, vI p1].toArray w0 (fun en w' => ∃ v, en = .returned v ∧ (v = vS r ∧ Kept (Old w0) w0 w')) := by
  unfold F_strconv_FormatInt at hF
  split at hF
  · rename_i h
    obtain ⟨rfl, h0, h1⟩ := h
    obtain rfl := Option.some.inj hF
    refine (Tryd.strconv_FormatInt_10 p0 h0 h1 w0 hT.tab).mono ?_
    rintro en w' ⟨rfl, k, os, rfl⟩
    exact ⟨_, rfl, rfl, rfl, rfl, rfl, Lib.size_grow _ _ _, fun b hb => Lib.heap_grow_old w0 k os b hb⟩
  · cases hF
/-- Where the one byte of p1 stands in p0. -/
def F_internal_stringslite_Index (p0 p1 : Str) : Option Int := if p1.l.length = 1 then some (Lib.indexByte p0.l (p1.l.getD 0 0)) else none
theorem c_internal_stringslite_Index (w0 : World) (p0 p1 : Str) (r : Int) (hF : F_internal_stringslite_Index p0 p1 = some r) :
    Calls Tryd.prog 40 [vS p0, vS p1].toArray w0 (fun en w' => ∃ v, en = .returned v ∧ (v = vI r ∧ Kept (Old w0) w0 w')) := by
  unfold F_internal_stringslite_Index at hF
  split at hF
  · rename_i h
    obtain ⟨l⟩ := p1
    match l, h with
    | [c], _ =>
      obtain rfl := Option.some.inj hF
      refine (Tryd.stringslite_Index_one ⟨p0.l.toArray⟩ c w0).mono ?_
      rintro en w' ⟨rfl, rfl⟩
      exact ⟨_, rfl, rfl, Kept.refl _ _⟩
  · cases hF
theorem Kept.ofBelow {w w' : World} (h : Go.RowKit.Below w.heap.size w w') : Kept (Old w) w w' := ⟨h.os, h.tape, h.output, h.size, fun b hb => h.block b hb⟩
section
variable {n : Nat} {a : Act} {e : List (Nat × Value)} {w w' : World} {P : Program} {ops : Array Oper} {rest : List Oper} {Q : Exit → Act → World → Prop}
variable {d : Nat} {ty t : TypeId} {pos : String} {af : Array Edge} {g : Option (Nat × Bool)} {x y : Operand} {v : Value}
/-- Comparing an interface value with nil. -/
theorem s_neI {y' : TypeId} {b : Bool} (h : Env n a e) (hw : Goes ops ⟨some d, .binOp .neq t x (.const .nilIface) y', ty, pos, af, g⟩ a) (hd : d < n) (hx : opv e x = some v)
    (ht : P.underlying t = some (.interface (P.methodsAt t))) (hv : (v = .nilIface ∧ b = false) ∨ ((∃ u p, v = .iface u p) ∧ b = true))
    (k : ∀ a, Env n a ((d, vT b) :: e) → wpList P ops Q rest a w) : wpList P ops Q (⟨some d, .binOp .neq t x (.const .nilIface) y', ty, pos, af, g⟩ :: rest) a w := by
  refine s_val h hw rfl hd ?_ k
  have hc : a.eval (.const .nilIface) = .nilIface := rfl
  simp only [execOp, h.ev hx, hc]
  rcases hv with ⟨rfl, rfl⟩ | ⟨⟨u, p, rfl⟩, rfl⟩
  · simp [eqGuard, run_neq_nil_nil w t ht]
  · simp [eqGuard, run_neq_held_nil w t u p ht]
end
theorem c_strconv_ParseInt (w0 : World) (p0 : Str) (hl : p0.l.length ≤ 281474976710656) (hT : TabT w0) :
    Calls Tryd.prog 37 [vS p0, vI 10, vI 64].toArray w0 (fun en w' => ∃ v, en = .returned v ∧ ((∃ (n : Int) (e : Value) (b : Bool), v = .tuple #[vI n, e] ∧ ((e = .nilIface ∧ b = false) ∨ ((∃ u p, e = .iface u p) ∧ b = true)) ∧ ((b = false ∧ Lib.parseIntB 64 p0.l = .ok n) ∨ (b = true ∧ ∀ k, Lib.parseIntB 64 p0.l ≠ .ok k))) ∧ Kept (Old w0) w0 w')) := by
  have hs : (⟨p0.l.toArray⟩ : ByteArray).size = p0.l.length := rfl
  match hp : Lib.parseIntB 64 p0.l with
  | Lib.NumEnd.ok v =>
    refine (Tryd.strconv_ParseInt_10_at64_ok ⟨p0.l.toArray⟩ (by omega) v hp w0).mono ?_
    rintro en w' ⟨rfl, hw⟩
    refine ⟨_, rfl, ⟨v, _, false, rfl, .inl ⟨rfl, rfl⟩, .inl ⟨rfl, rfl⟩⟩, ?_⟩
    rcases hw with rfl | ⟨t, rfl⟩
    · exact Kept.refl _ _
    · exact Kept.ofBelow (Lib.bytesWorld_below _ _ _)
  | Lib.NumEnd.syntax =>
    obtain ⟨t, p, h⟩ := hT.syn
    refine (Tryd.strconv_ParseInt_10_at64_syntax_var ⟨p0.l.toArray⟩ (by omega) hp t p w0 h).mono ?_
    rintro en w' ⟨N, rfl, _, _, hb⟩
    exact ⟨_, rfl, ⟨_, _, true, rfl, .inr ⟨⟨_, _, rfl⟩, rfl⟩, .inr ⟨rfl, fun k h => by cases h⟩⟩, Kept.ofBelow hb⟩
  | Lib.NumEnd.range =>
    obtain ⟨t, p, h⟩ := hT.ran
    refine (Tryd.strconv_ParseInt_10_at64_range_var ⟨p0.l.toArray⟩ (by omega) hp t p w0 h).mono ?_
    rintro en w' ⟨N, rfl, _, _, hb⟩
    exact ⟨_, rfl, ⟨_, _, true, rfl, .inr ⟨⟨_, _, rfl⟩, rfl⟩, .inr ⟨rfl, fun k h => by cases h⟩⟩, Kept.ofBelow hb⟩
theorem cb39 : Callable Tryd.prog 39 := ⟨_, _, Tryd.func39, by decide +kernel, rfl⟩
theorem cb33 : Callable Tryd.prog 33 := ⟨_, _, Tryd.func33, by decide +kernel, rfl⟩
theorem cb37 : Callable Tryd.prog 37 := ⟨_, _, Tryd.func37, by decide +kernel, rfl⟩
noncomputable def F_impl_decimal (p0 : Int) : Option (Str) :=
  (F_strconv_FormatInt p0 10).bind fun (r1 : Str) => some r1
set_option maxRecDepth 20000 in
set_option maxHeartbeats 400000 in
theorem c_impl_decimal (w0 : World) (p0 : Int) (hT : TabT w0) (r : Str) (hF : F_impl_decimal p0 = some r) :
    Calls Tryd.prog 33 [(vI p0)].toArray w0 (fun en w' => ∃ v, en = .returned v ∧ (v = (vS r) ∧ Kept (Old w0) w0 w')) := by
  refine c_enter (n := 5) Tryd.func33 rfl rfl (Nat.le_of_ble_eq_true rfl) rfl ?_
  intro a hE
  have hM := M.start w0
  unfold F_impl_decimal at hF
  refine c_region ?_
  refine s_assign hE goes_none (by decide) rfl ?_; intro a hE
  refine c_fin ?_
  refine c_region ?_
  refine s_move hE goes_none (by decide) rfl ?_; intro a hE
  obtain ⟨r1, e2, hF⟩ := bind_some hF
  refine s_call (vs := [(vI p0), (vI 10)]) hE goes_none (by decide) rfl cb39 (c_strconv_FormatInt _ p0 10 (hT.kept hM.kept) r1 e2) ?_
  rintro v w a ⟨rfl, hK⟩ hE
  have hM := hM.keep hK
  refine s_assign hE goes_none (by decide) rfl ?_; intro a hE
  refine c_fin ?_
  have hr := Option.some.inj hF
  subst hr
  exact wp_ret (k_ret1 hE rfl (res_tmp hE rfl) ⟨_, rfl, rfl, hM.kept⟩)
/-- What readDecimal answers. -/
def rdec (l : List UInt8) : Int × Bool := match Lib.parseIntB 64 l with
  | .ok n => if n < 0 ∨ 9 < l.length ∨ Lib.itoa n ≠ l then (0, false) else (n, true)
  | _ => (0, false)
noncomputable def F_impl_readDecimal (p0 : Str) : Option (Int × Bool) := if p0.l.length ≤ 281474976710656 then some (rdec p0.l) else none
noncomputable def G_rd (p0 : Str) (r1 : Int × Bool) : Option (Int × Bool) :=
  (if r1.2 = true then (some true) else (if (decide (r1.1 < 0)) = true then (some true) else (if (decide ((p0.l.length : Int) > 9)) = true then (some true) else ((F_impl_decimal r1.1).bind fun (r12 : Str) => some (!decide (r12 = p0))))) : Option (Bool)).bind fun (j3 : Bool) => if j3 = true then (some (0, false)) else (some (r1.1, true))
theorem rd_len {p0 : Str} {r : Int × Bool} (h : F_impl_readDecimal p0 = some r) : p0.l.length ≤ 281474976710656 := by
  unfold F_impl_readDecimal at h
  split at h
  · assumption
  · cases h
theorem rd_of {p0 : Str} {r r1 : Int × Bool} (h : F_impl_readDecimal p0 = some r) (hp : (r1.2 = false ∧ Lib.parseIntB 64 p0.l = .ok r1.1) ∨ (r1.2 = true ∧ ∀ k, Lib.parseIntB 64 p0.l ≠ .ok k)) : G_rd p0 r1 = some r := by
  obtain ⟨n, b⟩ := r1
  unfold F_impl_readDecimal at h
  rw [if_pos (rd_len h)] at h
  rw [← h]
  unfold rdec G_rd
  rcases hp with ⟨hb, hp⟩ | ⟨hb, hp⟩
  · simp only at hb hp
    subst hb
    obtain ⟨h0, h1⟩ := Lib.parseIntB_bounds hp
    simp only [hp]
    have hdec : F_impl_decimal n = some ⟨Lib.itoa n⟩ := by
      unfold F_impl_decimal F_strconv_FormatInt
      rw [if_pos ⟨rfl, by omega, by omega⟩]; rfl
    simp only [hdec, Option.bind_some]
    have hb : ∀ q : Str, (Str.mk (Lib.itoa n) = q) ↔ Lib.itoa n = q.l := fun q => ⟨fun h => by rw [← h], fun h => by obtain ⟨l⟩ := q; simp only at h; rw [h]⟩
    by_cases a1 : n < 0
    · simp [a1]
    · by_cases a2 : 9 < p0.l.length
      · have a5 : (9 : Int) < (p0.l.length : Int) := by omega
        simp [a1, a2, a5]
      · have a5 : ¬ (9 : Int) < (p0.l.length : Int) := by omega
        by_cases a3 : Lib.itoa n = p0.l
        · simp [a1, a2, a3, a5]
        · have a4 : ¬ Str.mk (Lib.itoa n) = p0 := fun h => a3 ((hb p0).1 h)
          simp [a1, a2, a3, a4, a5]
  · simp only at hb
    subst hb
    match hq : Lib.parseIntB 64 p0.l with
    | Lib.NumEnd.ok k => exact absurd hq (hp k)
    | Lib.NumEnd.syntax => rfl
    | Lib.NumEnd.range => rfl
theorem ty55m : Tryd.prog.underlying 55 = some (.interface (Tryd.prog.methodsAt 55)) := Tryd.underlying55.trans (congrArg some (by kernel_rfl))
set_option maxRecDepth 20000 in
set_option maxHeartbeats 400000 in
theorem c_impl_readDecimal (w0 : World) (p0 : Str) (hT : TabT w0) (r : Int × Bool) (hF : F_impl_readDecimal p0 = some r) :
    Calls Tryd.prog 26 [(vS p0)].toArray w0 (fun en w' => ∃ v, en = .returned v ∧ (v = (Value.tuple [(vI r.1), (vT r.2)].toArray) ∧ Kept (Old w0) w0 w')) := by
  refine c_enter (n := 29) Tryd.func26 rfl rfl (Nat.le_of_ble_eq_true rfl) rfl ?_
  intro a hE
  have hM := M.start w0
  have hl0 := rd_len hF
  refine c_region ?_
  refine s_assign hE goes_none (by decide) rfl ?_; intro a hE
  refine s_assign hE goes_none (by decide) rfl ?_; intro a hE
  refine c_fin ?_
  refine c_region ?_
  refine s_move hE goes_none (by decide) rfl ?_; intro a hE
  refine s_call (vs := [(vS p0), (vI 10), (vI 64)]) hE goes_none (by decide) rfl cb37 (c_strconv_ParseInt _ p0 hl0 (hT.kept hM.kept)) ?_
  rintro v w a ⟨⟨n1, e1, b1, rfl, he1, hp1⟩, hK⟩ hE
  obtain ⟨r1, rfl, rfl⟩ : ∃ r1 : Int × Bool, r1.1 = n1 ∧ r1.2 = b1 := ⟨(n1, b1), rfl, rfl⟩
  have hF := rd_of hF hp1
  unfold G_rd at hF
  have hM := hM.keep hK
  refine s_move hE goes_none (by decide) rfl ?_; intro a hE
  refine s_extract hE goes_none (by decide) rfl rfl ?_; intro a hE
  refine s_extract hE goes_none (by decide) rfl rfl ?_; intro a hE
  refine s_assign hE goes_none (by decide) rfl ?_; intro a hE
  refine s_assign hE goes_none (by decide) rfl ?_; intro a hE
  refine c_fin ?_
  refine wp_seq ?_
  obtain ⟨j3, hl4, hF5⟩ := bind_some hF
  refine c_join (fun a w => Env 29 a [(4, (vI r1.1)), (27, (vT j3))] ∧ M (Old w0) w0 w []) ?_ ?_
  · skip
    refine wp_region_lit ?_
    refine s_move hE goes_none (by decide) rfl ?_; intro a hE
    refine s_neI hE goes_none (by decide) rfl ty55m he1 ?_; intro a hE
    refine s_move hE goes_none (by decide) rfl ?_; intro a hE
    refine splitB r1.2 (fun hb6 => ?_) (fun hb6 => ?_)
    · have hl4 := ite_t hl4 hb6
      refine s_skip hE rfl (lkb rfl hb6) rfl (by decide) ?_; intro a hE
      refine s_skip hE rfl (lkb rfl hb6) rfl (by decide) ?_; intro a hE
      refine s_pickT hE goes_none (by decide) (lkb rfl hb6) rfl ?_; intro a hE
      refine s_move hE goes_none (by decide) rfl ?_; intro a hE
      refine s_skip hE rfl rfl rfl (by decide) ?_; intro a hE
      refine s_skip hE rfl rfl rfl (by decide) ?_; intro a hE
      refine s_skip hE rfl rfl rfl (by decide) ?_; intro a hE
      refine s_pickT hE goes_none (by decide) rfl rfl ?_; intro a hE
      refine s_move hE goes_none (by decide) rfl ?_; intro a hE
      refine s_skip hE rfl rfl rfl (by decide) ?_; intro a hE
      refine s_skip hE rfl rfl rfl (by decide) ?_; intro a hE
      refine s_skip hE rfl rfl rfl (by decide) ?_; intro a hE
      refine s_skip hE rfl rfl rfl (by decide) ?_; intro a hE
      refine s_pickT hE goes_none (by decide) rfl rfl ?_; intro a hE
      refine c_fin0 ?_
      have ht7 := Option.some.inj hl4
      subst ht7
      refine c_mid ?_
      exact ⟨hE.sub ⟨rfl, rfl, trivial⟩, hM⟩
    · have hl4 := ite_f hl4 hb6
      refine s_move hE (goes_yes hE rfl (lkb rfl hb6)) (by decide) rfl ?_; intro a hE
      refine s_int hE (goes_yes hE rfl (lkb rfl hb6)) (by decide) rfl rfl rfl ?_; intro a hE
      refine s_pickF hE goes_none (by decide) (lkb rfl hb6) rfl ?_; intro a hE
      refine s_move hE goes_none (by decide) rfl ?_; intro a hE
      refine splitB (decide (r1.1 < 0)) (fun hb8 => ?_) (fun hb8 => ?_)
      · have hl4 := ite_t hl4 hb8
        refine s_skip hE rfl (lkb rfl hb8) rfl (by decide) ?_; intro a hE
        refine s_skip hE rfl (lkb rfl hb8) rfl (by decide) ?_; intro a hE
        refine s_skip hE rfl (lkb rfl hb8) rfl (by decide) ?_; intro a hE
        refine s_pickT hE goes_none (by decide) (lkb rfl hb8) rfl ?_; intro a hE
        refine s_move hE goes_none (by decide) rfl ?_; intro a hE
        refine s_skip hE rfl rfl rfl (by decide) ?_; intro a hE
        refine s_skip hE rfl rfl rfl (by decide) ?_; intro a hE
        refine s_skip hE rfl rfl rfl (by decide) ?_; intro a hE
        refine s_skip hE rfl rfl rfl (by decide) ?_; intro a hE
        refine s_pickT hE goes_none (by decide) rfl rfl ?_; intro a hE
        refine c_fin0 ?_
        have ht9 := Option.some.inj hl4
        subst ht9
        refine c_mid ?_
        exact ⟨hE.sub ⟨rfl, rfl, trivial⟩, hM⟩
      · have hl4 := ite_f hl4 hb8
        refine s_move hE (goes_yes hE rfl (lkb rfl hb8)) (by decide) rfl ?_; intro a hE
        refine s_lenStr hE (goes_yes hE rfl (lkb rfl hb8)) (by decide) rfl Tryd.underlying9 ?_; intro a hE
        refine s_int hE (goes_yes hE rfl (lkb rfl hb8)) (by decide) rfl rfl rfl ?_; intro a hE
        refine s_pickF hE goes_none (by decide) (lkb rfl hb8) rfl ?_; intro a hE
        refine s_move hE goes_none (by decide) rfl ?_; intro a hE
        refine splitB (decide ((p0.l.length : Int) > 9)) (fun hb10 => ?_) (fun hb10 => ?_)
        · have hl4 := ite_t hl4 hb10
          refine s_skip hE rfl (lkb rfl hb10) rfl (by decide) ?_; intro a hE
          refine s_skip hE rfl (lkb rfl hb10) rfl (by decide) ?_; intro a hE
          refine s_skip hE rfl (lkb rfl hb10) rfl (by decide) ?_; intro a hE
          refine s_skip hE rfl (lkb rfl hb10) rfl (by decide) ?_; intro a hE
          refine s_pickT hE goes_none (by decide) (lkb rfl hb10) rfl ?_; intro a hE
          refine c_fin0 ?_
          have ht11 := Option.some.inj hl4
          subst ht11
          refine c_mid ?_
          exact ⟨hE.sub ⟨rfl, rfl, trivial⟩, hM⟩
        · have hl4 := ite_f hl4 hb10
          refine s_move hE (goes_yes hE rfl (lkb rfl hb10)) (by decide) rfl ?_; intro a hE
          obtain ⟨r12, e13, hl4⟩ := bind_some hl4
          refine s_call (vs := [(vI r1.1)]) hE (goes_yes hE rfl (lkb rfl hb10)) (by decide) rfl cb33 (c_impl_decimal _ r1.1 (hT.kept hM.kept) r12 e13) ?_
          rintro v w a ⟨rfl, hK⟩ hE
          have hM := hM.keep hK
          refine s_move hE (goes_yes hE rfl (lkb rfl hb10)) (by decide) rfl ?_; intro a hE
          refine s_neS hE (goes_yes hE rfl (lkb rfl hb10)) (by decide) rfl rfl ?_; intro a hE
          refine s_pickF hE goes_none (by decide) (lkb rfl hb10) rfl ?_; intro a hE
          refine c_fin0 ?_
          have ht14 := Option.some.inj hl4
          subst ht14
          refine c_mid ?_
          exact ⟨hE.sub ⟨rfl, rfl, trivial⟩, hM⟩
  · skip
    rintro a w ⟨hE, hM⟩
    refine c_cond hE rfl ?_ ?_
    · intro hb15
      have hF5 := ite_t hF5 hb15
      refine c_region ?_
      refine s_assign hE goes_none (by decide) rfl ?_; intro a hE
      refine s_assign hE goes_none (by decide) rfl ?_; intro a hE
      refine c_fin ?_
      have hr := Option.some.inj hF5
      subst hr
      exact wp_ret (r_then (k_ret2 hE rfl (res_tmp hE rfl) (res_tmp hE rfl) ⟨_, rfl, rfl, hM.kept⟩))
    · intro hb15
      have hF5 := ite_f hF5 hb15
      refine wp_skip ?_
      refine c_nx ?_
      refine c_region ?_
      refine s_move hE goes_none (by decide) rfl ?_; intro a hE
      refine s_assign hE goes_none (by decide) rfl ?_; intro a hE
      refine s_assign hE goes_none (by decide) rfl ?_; intro a hE
      refine c_fin ?_
      have hr := Option.some.inj hF5
      subst hr
      exact wp_ret (k_ret2 hE rfl (res_tmp hE rfl) (res_tmp hE rfl) ⟨_, rfl, rfl, hM.kept⟩)
end Go.Proofs.YtkcaldgoomphaaaDoor
