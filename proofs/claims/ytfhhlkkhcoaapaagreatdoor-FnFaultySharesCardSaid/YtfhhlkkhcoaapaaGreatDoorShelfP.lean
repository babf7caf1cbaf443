/- The library's contracts that the walk leans on (the shelf's, laid by its one command in its plain mode): strconv.FormatInt, strconv.ParseInt, the search of one byte. -/
import Derived.Shelf.LaysM
import Derived.Shelf.Strconv.Itoa4
import Derived.Lib.AppendIntMem
import Derived.Shelf.LaysC
import Derived.Shelf.Strconv.ParseIntPublic10
import Derived.Shelf.Strconv.ErrVarParseInt
import Derived.Shelf.Strings.Search2
import Derived.Lib.ParseIntBTie
import Derived.Test.YtfhhlkkhcoaapaaGreatDoorK2
import Derived.Test.YtfhhlkkhcoaapaaGreatDoorProg
namespace Go.Proofs
open Go.Shelf
def Tryz.laysM173_ren : Go.Shelf.Ren := ⟨fun | 173 => 134 | 246 => 140 | 283 => 151 | 284 => 152 | 285 => 153 | 286 => 154 | 129 => 163 | 317 => 162 | 318 => 164 | 319 => 165 | 320 => 166 | 337 => 168 | 338 => 169 | n => n, fun | 2 => 2 | 3 => 3 | 9 => 9 | 4 => 4 | 171 => 174 | 0 => 0 | 53 => 44 | 37 => 22 | 5 => 5 | 173 => 176 | 212 => 186 | 51 => 123 | 20 => 20 | 213 => 187 | 46 => 75 | 232 => 192 | 233 => 193 | n => n, fun | 17 => 3 | 18 => 4 | 19 => 5 | n => n⟩
theorem Tryz.laysM173 : Go.Proofs.LaysM.n173 Tryz.prog Tryz.laysM173_ren := {
  mixed := by kernel_rfl
  f129 := Tryz.func163.trans (congrArg some (by kernel_rfl))
  f173 := Tryz.func134.trans (congrArg some (by kernel_rfl))
  f246 := Tryz.func140.trans (congrArg some (by kernel_rfl))
  f283 := Tryz.func151.trans (congrArg some (by kernel_rfl))
  f284 := Tryz.func152.trans (congrArg some (by kernel_rfl))
  f285 := Tryz.func153.trans (congrArg some (by kernel_rfl))
  f286 := Tryz.func154.trans (congrArg some (by kernel_rfl))
  f317 := Tryz.func162.trans (congrArg some (by kernel_rfl))
  f318 := Tryz.func164.trans (congrArg some (by kernel_rfl))
  f319 := Tryz.func165.trans (congrArg some (by kernel_rfl))
  f320 := Tryz.func166.trans (congrArg some (by kernel_rfl))
  f337 := Tryz.func168.trans (congrArg some (by kernel_rfl))
  f338 := Tryz.func169.trans (congrArg some (by kernel_rfl))
  t0 := Tryz.underlying0
  a0 := Tryz.isAgg0
  z0 := Tryz.sizeOf0
  v0 := Tryz.zeroValue0
  t2 := Tryz.underlying2
  a2 := Tryz.isAgg2
  z2 := Tryz.sizeOf2
  v2 := Tryz.zeroValue2
  t3 := Tryz.underlying3
  a3 := Tryz.isAgg3
  z3 := Tryz.sizeOf3
  v3 := Tryz.zeroValue3
  t4 := Tryz.underlying4
  a4 := Tryz.isAgg4
  z4 := Tryz.sizeOf4
  v4 := Tryz.zeroValue4
  t5 := Tryz.underlying5
  a5 := Tryz.isAgg5
  z5 := Tryz.sizeOf5
  v5 := Tryz.zeroValue5
  t9 := Tryz.underlying9
  a9 := Tryz.isAgg9
  z9 := Tryz.sizeOf9
  v9 := Tryz.zeroValue9
  t20 := Tryz.underlying20
  a20 := Tryz.isAgg20
  z20 := Tryz.sizeOf20
  v20 := Tryz.zeroValue20
  t37 := Tryz.underlying22
  a37 := Tryz.isAgg22
  z37 := Tryz.sizeOf22
  v37 := Tryz.zeroValue22
  t46 := Tryz.underlying75
  a46 := Tryz.isAgg75
  z46 := Tryz.sizeOf75
  v46 := Tryz.zeroValue75
  t51 := Tryz.underlying123
  a51 := Tryz.isAgg123
  z51 := Tryz.sizeOf123
  v51 := Tryz.zeroValue123
  t53 := Tryz.underlying44
  a53 := Tryz.isAgg44
  z53 := Tryz.sizeOf44
  v53 := Tryz.zeroValue44
  t171 := Tryz.underlying174
  a171 := Tryz.isAgg174
  z171 := Tryz.sizeOf174
  v171 := Tryz.zeroValue174
  t173 := Tryz.underlying176
  a173 := Tryz.isAgg176
  z173 := Tryz.sizeOf176
  v173 := Tryz.zeroValue176
  t212 := Tryz.underlying186
  a212 := Tryz.isAgg186
  z212 := Tryz.sizeOf186
  v212 := Tryz.zeroValue186
  t213 := Tryz.underlying187
  a213 := Tryz.isAgg187
  z213 := Tryz.sizeOf187
  t232 := Tryz.underlying192
  a232 := Tryz.isAgg192
  z232 := Tryz.sizeOf192
  v232 := Tryz.zeroValue192
  t233 := Tryz.underlying193
  a233 := Tryz.isAgg193
  z233 := Tryz.sizeOf193
  v233 := Tryz.zeroValue193
  g17 := by kernel_rfl
  g18 := by kernel_rfl
  g19 := by kernel_rfl
  i0 := by kernel_rfl
  i2 := by kernel_rfl
  i3 := by kernel_rfl
  i4 := by kernel_rfl
  i5 := by kernel_rfl
  i9 := by kernel_rfl
  i20 := by kernel_rfl
  i37 := by kernel_rfl
  i46 := by kernel_rfl
  i51 := by kernel_rfl
  i53 := by kernel_rfl
  i171 := by kernel_rfl
  i173 := by kernel_rfl
  i212 := by kernel_rfl
  i232 := by kernel_rfl
  i233 := by kernel_rfl
  m17 := by kernel_rfl
  m18 := by kernel_rfl
  m19 := by kernel_rfl }
open Go.RowKit Go.Sort Go.Lib in
theorem Tryz.strconv_FormatInt_10 (n : Int) (h0 : -9223372036854775808 ≤ n) (h1 : n ≤ 9223372036854775807) (w : World) (htab : Lib.TabIs Tryz.prog w "internal/strconv.uint64pow10" .u64 Lib.pow10Tab) :
    Calls Tryz.prog 134 #[.int .i64 n, .int .i64 10] w fun e w' => e = .returned (.string ⟨(Lib.itoa n).toArray⟩) ∧ ∃ k os, w' = grow (w.drewN k) os := Any.strconv_FormatInt_10 Tryz.laysM173 n h0 h1 w htab
def Tryz.lays219_ren : Go.Shelf.Ren := ⟨fun | 219 => 135 | 217 => 141 | 225 => 142 | 224 => 143 | 267 => 144 | 266 => 155 | 314 => 156 | n => n, fun | 9 => 9 | 3 => 3 | 4 => 4 | 5 => 5 | 46 => 75 | 146 => 178 | 51 => 123 | n => n, fun | 1 => 0 | n => n⟩
theorem Tryz.lays219 : Go.Proofs.Lays.n219 Tryz.prog Tryz.lays219_ren := {
  mixed := by kernel_rfl
  f217 := Tryz.func141.trans (congrArg some (by kernel_rfl))
  f219 := Tryz.func135.trans (congrArg some (by kernel_rfl))
  f224 := Tryz.func143.trans (congrArg some (by kernel_rfl))
  f225 := Tryz.func142.trans (congrArg some (by kernel_rfl))
  f266 := Tryz.func155.trans (congrArg some (by kernel_rfl))
  f267 := Tryz.func144.trans (congrArg some (by kernel_rfl))
  f314 := Tryz.func156.trans (congrArg some (by kernel_rfl))
  t3 := Tryz.underlying3
  a3 := Tryz.isAgg3
  z3 := Tryz.sizeOf3
  v3 := Tryz.zeroValue3
  t4 := Tryz.underlying4
  a4 := Tryz.isAgg4
  z4 := Tryz.sizeOf4
  v4 := Tryz.zeroValue4
  t5 := Tryz.underlying5
  a5 := Tryz.isAgg5
  z5 := Tryz.sizeOf5
  v5 := Tryz.zeroValue5
  t9 := Tryz.underlying9
  a9 := Tryz.isAgg9
  z9 := Tryz.sizeOf9
  v9 := Tryz.zeroValue9
  t46 := Tryz.underlying75
  a46 := Tryz.isAgg75
  z46 := Tryz.sizeOf75
  v46 := Tryz.zeroValue75
  t51 := Tryz.underlying123
  a51 := Tryz.isAgg123
  z51 := Tryz.sizeOf123
  v51 := Tryz.zeroValue123
  t146 := Tryz.underlying178
  a146 := Tryz.isAgg178
  z146 := Tryz.sizeOf178
  v146 := Tryz.zeroValue178
  g1 := by kernel_rfl }
open Go.RowKit Go.Lib in
theorem Tryz.stringslite_Index_one (s : ByteArray) (c : UInt8) (w : World) :
    Calls Tryz.prog 135 #[.string s, .string ⟨#[c]⟩] w fun e w' => e = .returned (.int .i64 (Lib.indexByte s.data.toList c)) ∧ w' = w := Any.stringslite_Index_one Tryz.lays219 s c w
def Tryz.laysC174_ren : Go.Shelf.Ren := ⟨fun | 174 => 117 | 247 => 136 | 245 => 137 | 287 => 145 | 279 => 146 | 280 => 147 | 281 => 148 | 282 => 149 | 321 => 157 | 322 => 158 | 316 => 159 | 171 => 161 | 205 => 160 | 243 => 167 | 246 => 140 | 283 => 151 | 284 => 152 | 285 => 153 | 286 => 154 | 129 => 163 | 317 => 162 | 318 => 164 | 319 => 165 | 320 => 166 | 337 => 168 | 338 => 169 | n => n, fun | 9 => 9 | 3 => 3 | 2 => 2 | 75 => 142 | 85 => 143 | 4 => 4 | 167 => 166 | 5 => 5 | 53 => 44 | 175 => 167 | 46 => 75 | 168 => 169 | 37 => 22 | 0 => 0 | 210 => 183 | 21 => 21 | 127 => 188 | 145 => 191 | 143 => 189 | 171 => 174 | 173 => 176 | 212 => 186 | 51 => 123 | 20 => 20 | 213 => 187 | 232 => 192 | 233 => 193 | 80 => 194 | n => n, fun | 15 => 1 | 16 => 2 | 17 => 3 | 18 => 4 | 19 => 5 | n => n⟩
theorem Tryz.laysC174 : Go.Proofs.LaysC.n174 Tryz.prog Tryz.laysC174_ren := {
  mixed := by kernel_rfl
  f129 := Tryz.func163.trans (congrArg some (by kernel_rfl))
  f171 := Tryz.func161.trans (congrArg some (by kernel_rfl))
  f174 := Tryz.func117.trans (congrArg some (by kernel_rfl))
  f205 := Tryz.func160.trans (congrArg some (by kernel_rfl))
  f243 := Tryz.func167.trans (congrArg some (by kernel_rfl))
  f245 := Tryz.func137.trans (congrArg some (by kernel_rfl))
  f246 := Tryz.func140.trans (congrArg some (by kernel_rfl))
  f247 := Tryz.func136.trans (congrArg some (by kernel_rfl))
  f279 := Tryz.func146.trans (congrArg some (by kernel_rfl))
  f280 := Tryz.func147.trans (congrArg some (by kernel_rfl))
  f281 := Tryz.func148.trans (congrArg some (by kernel_rfl))
  f282 := Tryz.func149.trans (congrArg some (by kernel_rfl))
  f283 := Tryz.func151.trans (congrArg some (by kernel_rfl))
  f284 := Tryz.func152.trans (congrArg some (by kernel_rfl))
  f285 := Tryz.func153.trans (congrArg some (by kernel_rfl))
  f286 := Tryz.func154.trans (congrArg some (by kernel_rfl))
  f287 := Tryz.func145.trans (congrArg some (by kernel_rfl))
  f316 := Tryz.func159.trans (congrArg some (by kernel_rfl))
  f317 := Tryz.func162.trans (congrArg some (by kernel_rfl))
  f318 := Tryz.func164.trans (congrArg some (by kernel_rfl))
  f319 := Tryz.func165.trans (congrArg some (by kernel_rfl))
  f320 := Tryz.func166.trans (congrArg some (by kernel_rfl))
  f321 := Tryz.func157.trans (congrArg some (by kernel_rfl))
  f322 := Tryz.func158.trans (congrArg some (by kernel_rfl))
  f337 := Tryz.func168.trans (congrArg some (by kernel_rfl))
  f338 := Tryz.func169.trans (congrArg some (by kernel_rfl))
  t0 := Tryz.underlying0
  a0 := Tryz.isAgg0
  z0 := Tryz.sizeOf0
  v0 := Tryz.zeroValue0
  t2 := Tryz.underlying2
  a2 := Tryz.isAgg2
  z2 := Tryz.sizeOf2
  v2 := Tryz.zeroValue2
  t3 := Tryz.underlying3
  a3 := Tryz.isAgg3
  z3 := Tryz.sizeOf3
  v3 := Tryz.zeroValue3
  t4 := Tryz.underlying4
  a4 := Tryz.isAgg4
  z4 := Tryz.sizeOf4
  v4 := Tryz.zeroValue4
  t5 := Tryz.underlying5
  a5 := Tryz.isAgg5
  z5 := Tryz.sizeOf5
  v5 := Tryz.zeroValue5
  t9 := Tryz.underlying9
  a9 := Tryz.isAgg9
  z9 := Tryz.sizeOf9
  v9 := Tryz.zeroValue9
  t20 := Tryz.underlying20
  a20 := Tryz.isAgg20
  z20 := Tryz.sizeOf20
  v20 := Tryz.zeroValue20
  t21 := Tryz.underlying21
  a21 := Tryz.isAgg21
  z21 := Tryz.sizeOf21
  v21 := Tryz.zeroValue21
  t37 := Tryz.underlying22
  a37 := Tryz.isAgg22
  z37 := Tryz.sizeOf22
  v37 := Tryz.zeroValue22
  t46 := Tryz.underlying75
  a46 := Tryz.isAgg75
  z46 := Tryz.sizeOf75
  v46 := Tryz.zeroValue75
  t51 := Tryz.underlying123
  a51 := Tryz.isAgg123
  z51 := Tryz.sizeOf123
  v51 := Tryz.zeroValue123
  t53 := Tryz.underlying44
  a53 := Tryz.isAgg44
  z53 := Tryz.sizeOf44
  v53 := Tryz.zeroValue44
  t75 := Tryz.underlying142
  a75 := Tryz.isAgg142
  z75 := Tryz.sizeOf142
  v75 := Tryz.zeroValue142
  t85 := Tryz.underlying143
  a85 := Tryz.isAgg143
  z85 := Tryz.sizeOf143
  v85 := Tryz.zeroValue143
  t127 := Tryz.underlying188
  a127 := Tryz.isAgg188
  z127 := Tryz.sizeOf188
  v127 := Tryz.zeroValue188
  t143 := Tryz.underlying189
  a143 := Tryz.isAgg189
  z143 := Tryz.sizeOf189
  v143 := Tryz.zeroValue189
  t145 := Tryz.underlying191
  a145 := Tryz.isAgg191
  z145 := Tryz.sizeOf191
  v145 := Tryz.zeroValue191
  t167 := Tryz.underlying166
  a167 := Tryz.isAgg166
  z167 := Tryz.sizeOf166
  v167 := Tryz.zeroValue166
  t168 := Tryz.underlying169
  a168 := Tryz.isAgg169
  z168 := Tryz.sizeOf169
  v168 := Tryz.zeroValue169
  t171 := Tryz.underlying174
  a171 := Tryz.isAgg174
  z171 := Tryz.sizeOf174
  v171 := Tryz.zeroValue174
  t173 := Tryz.underlying176
  a173 := Tryz.isAgg176
  z173 := Tryz.sizeOf176
  v173 := Tryz.zeroValue176
  t175 := Tryz.underlying167
  a175 := Tryz.isAgg167
  z175 := Tryz.sizeOf167
  v175 := Tryz.zeroValue167
  t210 := Tryz.underlying183
  a210 := Tryz.isAgg183
  z210 := Tryz.sizeOf183
  v210 := Tryz.zeroValue183
  t212 := Tryz.underlying186
  a212 := Tryz.isAgg186
  z212 := Tryz.sizeOf186
  v212 := Tryz.zeroValue186
  t213 := Tryz.underlying187
  a213 := Tryz.isAgg187
  z213 := Tryz.sizeOf187
  t232 := Tryz.underlying192
  a232 := Tryz.isAgg192
  z232 := Tryz.sizeOf192
  v232 := Tryz.zeroValue192
  t233 := Tryz.underlying193
  a233 := Tryz.isAgg193
  z233 := Tryz.sizeOf193
  v233 := Tryz.zeroValue193
  g15 := by kernel_rfl
  g16 := by kernel_rfl
  g17 := by kernel_rfl
  g18 := by kernel_rfl
  g19 := by kernel_rfl
  t80 := Tryz.underlying194
  a80 := Tryz.isAgg194
  z80 := Tryz.sizeOf194
  v80 := Tryz.zeroValue194
  i0 := by kernel_rfl
  i2 := by kernel_rfl
  i3 := by kernel_rfl
  i4 := by kernel_rfl
  i5 := by kernel_rfl
  i9 := by kernel_rfl
  i20 := by kernel_rfl
  i21 := by kernel_rfl
  i37 := by kernel_rfl
  i46 := by kernel_rfl
  i51 := by kernel_rfl
  i53 := by kernel_rfl
  i75 := by kernel_rfl
  i80 := by kernel_rfl
  i85 := by kernel_rfl
  i127 := by kernel_rfl
  i143 := by kernel_rfl
  i145 := by kernel_rfl
  i167 := by kernel_rfl
  i168 := by kernel_rfl
  i171 := by kernel_rfl
  i173 := by kernel_rfl
  i175 := by kernel_rfl
  i210 := by kernel_rfl
  i212 := by kernel_rfl
  i232 := by kernel_rfl
  i233 := by kernel_rfl
  m15 := by kernel_rfl
  m16 := by kernel_rfl
  m17 := by kernel_rfl
  m18 := by kernel_rfl
  m19 := by kernel_rfl
  c0 := by kernel_rfl
  c2 := by kernel_rfl
  c3 := by kernel_rfl
  c4 := by kernel_rfl
  c5 := by kernel_rfl
  c9 := by kernel_rfl
  c20 := by kernel_rfl
  c21 := by kernel_rfl
  c37 := by kernel_rfl
  c46 := by kernel_rfl
  c51 := by kernel_rfl
  c53 := by kernel_rfl
  c75 := by kernel_rfl
  c80 := by kernel_rfl
  c85 := by kernel_rfl
  c127 := by kernel_rfl
  c143 := by kernel_rfl
  c145 := by kernel_rfl
  c167 := by kernel_rfl
  c168 := by kernel_rfl
  c171 := by kernel_rfl
  c173 := by kernel_rfl
  c175 := by kernel_rfl
  c210 := by kernel_rfl
  c212 := by kernel_rfl
  c213 := by kernel_rfl
  c232 := by kernel_rfl
  c233 := by kernel_rfl }
open Go.RowKit Go.Lib in
theorem Tryz.strconv_ParseInt_10_at64_ok (s : ByteArray) (hmax : s.size ≤ 9223372036854775806) (v : Int) (h : Lib.parseIntB 64 s.data.toList = .ok v) (w : World) :
    Calls Tryz.prog 117 #[.string s, .int .i64 10, .int .i64 64] w fun e w' => e = .returned (.tuple #[.int .i64 v, .nilIface]) ∧ (w' = w ∨ ∃ t, w' = Lib.bytesWorld w 5 t) := Any.strconv_ParseInt_10_at64_ok Tryz.laysC174 s hmax v h w
open Go.RowKit Go.Lib in
theorem Tryz.strconv_ParseInt_10_at64_syntax_var (s : ByteArray) (hlim : s.size ≤ 281474976710656) (h : Lib.parseIntB 64 s.data.toList = Lib.NumEnd.syntax) (tp : TypeId) (p : Value) (w : World) (hvar : w.var? Tryz.prog "strconv.ErrSyntax" = some #[.iface tp p]) :
    Calls Tryz.prog 117 #[.string s, .int .i64 10, .int .i64 64] w fun e w' => ∃ N, e = .returned (.tuple #[.int .i64 (0), .iface 169 (.pointer (some ⟨N, 0, none⟩))]) ∧ w.heap.size ≤ N ∧ w'.heap[N]? = some (.cells #[.string ⟨#[80, 97, 114, 115, 101, 73, 110, 116]⟩, .string s, .iface tp p] 183 (0, 0)) ∧ Below w.heap.size w w' := Any.strconv_ParseInt_10_at64_syntax_var Tryz.laysC174 s hlim h tp p w hvar
open Go.RowKit Go.Lib in
theorem Tryz.strconv_ParseInt_10_at64_range_var (s : ByteArray) (hlim : s.size ≤ 281474976710656) (h : Lib.parseIntB 64 s.data.toList = .range) (tp : TypeId) (p : Value) (w : World) (hvar : w.var? Tryz.prog "strconv.ErrRange" = some #[.iface tp p]) :
    Calls Tryz.prog 117 #[.string s, .int .i64 10, .int .i64 64] w fun e w' => ∃ N, e = .returned (.tuple #[.int .i64 (Lib.intSat 64 s.data.toList), .iface 169 (.pointer (some ⟨N, 0, none⟩))]) ∧ w.heap.size ≤ N ∧ w'.heap[N]? = some (.cells #[.string ⟨#[80, 97, 114, 115, 101, 73, 110, 116]⟩, .string s, .iface tp p] 183 (0, 0)) ∧ Below w.heap.size w w' := Any.strconv_ParseInt_10_at64_range_var Tryz.laysC174 s hlim h tp p w hvar
end Go.Proofs
namespace Go.Proofs.YtfhhlkkhcoaapaaGreatDoor
open Go
/-- A variable holds this. -/
def kz (w : World) (n : String) (c : Array Value) : Prop := w.var? Tryz.prog n = some c
theorem kz.kept {w w' : World} {n : String} {c : Array Value} (h : kz w n c) (hk : Kept (Old w) w w') : kz w' n c := by
  unfold kz World.var? at *
  cases hg : Tryz.prog.globalNamed n with
  | none => rw [hg] at h; cases h
  | some g =>
    rw [hg] at h
    simp only [Option.bind_some] at h ⊢
    have hlt : g < w.heap.size := by
      rcases Nat.lt_or_ge g w.heap.size with hb | hb
      · exact hb
      · simp [Array.getElem?_eq_none hb] at h
    rw [hk.block g hlt]
    exact h
/-- The table of powers and the two errors lie as the library lays them. -/
structure TabT (w : World) : Prop where
  tab : Lib.TabIs Tryz.prog w "internal/strconv.uint64pow10" .u64 Lib.pow10Tab
  syn : ∃ t p, kz w "strconv.ErrSyntax" #[.iface t p]
  ran : ∃ t p, kz w "strconv.ErrRange" #[.iface t p]
theorem TabT.kept {w w' : World} (h : TabT w) (hk : Kept (Old w) w w') : TabT w' := by
  obtain ⟨a, ⟨t, p, b⟩, ⟨u, q, c⟩⟩ := h
  exact ⟨kz.kept a hk, ⟨t, p, b.kept hk⟩, ⟨u, q, c.kept hk⟩⟩
noncomputable def WP (p0 : Int) (p1 : Int) : Option Str := if p1 = 10 ∧ -9223372036854775808 ≤ p0 ∧ p0 ≤ 9223372036854775807 then some ⟨Lib.itoa p0⟩ else none
theorem JU (w0 : World) (p0 : Int) (p1 : Int) (hT : TabT w0) (r : Str) (hF : WP p0 p1 = some r) :
    Calls Tryz.prog 134 [vI p0, vI p1].toArray w0 (fun en w' => ∃ v, en = .returned v ∧ (v = vS r ∧ Kept (Old w0) w0 w')) := by
  unfold WP at hF
  split at hF
  · rename_i h
    obtain ⟨rfl, h0, h1⟩ := h
    obtain rfl := Option.some.inj hF
    refine (Tryz.strconv_FormatInt_10 p0 h0 h1 w0 hT.tab).mono ?_
    rintro en w' ⟨rfl, k, os, rfl⟩
    exact ⟨_, rfl, rfl, rfl, rfl, rfl, Lib.size_grow _ _ _, fun b hb => Lib.heap_grow_old w0 k os b hb⟩
  · cases hF
/-- Where the one byte of p1 stands in p0. -/
def Xz (p0 p1 : Str) : Option Int := if p1.l.length = 1 then some (Lib.indexByte p0.l (p1.l.getD 0 0)) else none
theorem Qp (w0 : World) (p0 p1 : Str) (r : Int) (hF : Xz p0 p1 = some r) :
    Calls Tryz.prog 135 [vS p0, vS p1].toArray w0 (fun en w' => ∃ v, en = .returned v ∧ (v = vI r ∧ Kept (Old w0) w0 w')) := by
  unfold Xz at hF
  split at hF
  · rename_i h
    obtain ⟨l⟩ := p1
    match l, h with
    | [c], _ =>
      obtain rfl := Option.some.inj hF
      refine (Tryz.stringslite_Index_one ⟨p0.l.toArray⟩ c w0).mono ?_
      rintro en w' ⟨rfl, rfl⟩
      exact ⟨_, rfl, rfl, Kept.refl _ _⟩
  · cases hF
theorem Kept.ofBelow {w w' : World} (h : Go.RowKit.Below w.heap.size w w') : Kept (Old w) w w' := ⟨h.os, h.tape, h.output, h.size, fun b hb => h.block b hb⟩
section
variable {n : Nat} {a : Act} {e : List (Nat × Value)} {w w' : World} {P : Program} {ops : Array Oper} {rest : List Oper} {Q : Exit → Act → World → Prop}
variable {d : Nat} {ty t : TypeId} {pos : String} {af : Array Edge} {g : Option (Nat × Bool)} {x y : Operand} {v : Value}
/-- Comparing an interface value with nil. -/
theorem s_neI {y' : TypeId} {b : Bool} (h : Env n a e) (hw : Goes ops ⟨some d, .binOp .neq t x (.const .nilIface) y', ty, pos, af, g⟩ a) (hd : d < n) (hx : opv e x = some v)
    (ht : P.underlying t = some (.interface (P.methodsAt t))) (hv : (v = .nilIface ∧ b = false) ∨ ((∃ u p, v = .iface u p) ∧ b = true))
    (k : ∀ a, Env n a ((d, vT b) :: e) → wpList P ops Q rest a w) : wpList P ops Q (⟨some d, .binOp .neq t x (.const .nilIface) y', ty, pos, af, g⟩ :: rest) a w := by
  refine Xw h hw rfl hd ?_ k
  have hc : a.eval (.const .nilIface) = .nilIface := rfl
  simp only [execOp, h.ev hx, hc]
  rcases hv with ⟨rfl, rfl⟩ | ⟨⟨u, p, rfl⟩, rfl⟩
  · simp [eqGuard, run_neq_nil_nil w t ht]
  · simp [eqGuard, run_neq_held_nil w t u p ht]
end
theorem Hj (w0 : World) (p0 : Str) (hl : p0.l.length ≤ 281474976710656) (hT : TabT w0) :
    Calls Tryz.prog 117 [vS p0, vI 10, vI 64].toArray w0 (fun en w' => ∃ v, en = .returned v ∧ ((∃ (n : Int) (e : Value) (b : Bool), v = .tuple #[vI n, e] ∧ ((e = .nilIface ∧ b = false) ∨ ((∃ u p, e = .iface u p) ∧ b = true)) ∧ ((b = false ∧ Lib.parseIntB 64 p0.l = .ok n) ∨ (b = true ∧ ∀ k, Lib.parseIntB 64 p0.l ≠ .ok k))) ∧ Kept (Old w0) w0 w')) := by
  have hs : (⟨p0.l.toArray⟩ : ByteArray).size = p0.l.length := rfl
  match hp : Lib.parseIntB 64 p0.l with
  | Lib.NumEnd.ok v =>
    refine (Tryz.strconv_ParseInt_10_at64_ok ⟨p0.l.toArray⟩ (by omega) v hp w0).mono ?_
    rintro en w' ⟨rfl, hw⟩
    refine ⟨_, rfl, ⟨v, _, false, rfl, .inl ⟨rfl, rfl⟩, .inl ⟨rfl, rfl⟩⟩, ?_⟩
    rcases hw with rfl | ⟨t, rfl⟩
    · exact Kept.refl _ _
    · exact Kept.ofBelow (Lib.bytesWorld_below _ _ _)
  | Lib.NumEnd.syntax =>
    obtain ⟨t, p, h⟩ := hT.syn
    refine (Tryz.strconv_ParseInt_10_at64_syntax_var ⟨p0.l.toArray⟩ (by omega) hp t p w0 h).mono ?_
    rintro en w' ⟨N, rfl, _, _, hb⟩
    exact ⟨_, rfl, ⟨_, _, true, rfl, .inr ⟨⟨_, _, rfl⟩, rfl⟩, .inr ⟨rfl, fun k h => by cases h⟩⟩, Kept.ofBelow hb⟩
  | Lib.NumEnd.range =>
    obtain ⟨t, p, h⟩ := hT.ran
    refine (Tryz.strconv_ParseInt_10_at64_range_var ⟨p0.l.toArray⟩ (by omega) hp t p w0 h).mono ?_
    rintro en w' ⟨N, rfl, _, _, hb⟩
    exact ⟨_, rfl, ⟨_, _, true, rfl, .inr ⟨⟨_, _, rfl⟩, rfl⟩, .inr ⟨rfl, fun k h => by cases h⟩⟩, Kept.ofBelow hb⟩
theorem cb134 : Callable Tryz.prog 134 := ⟨_, _, Tryz.func134, by decide +kernel, rfl⟩
theorem cb112 : Callable Tryz.prog 112 := ⟨_, _, Tryz.func112, by decide +kernel, rfl⟩
theorem cb117 : Callable Tryz.prog 117 := ⟨_, _, Tryz.func117, by decide +kernel, rfl⟩
noncomputable def Wz (p0 : Int) : Option (Str) :=
  (WP p0 10).bind fun (r1 : Str) => some r1
set_option maxRecDepth 20000 in
set_option maxHeartbeats 400000 in
theorem Je (w0 : World) (p0 : Int) (hT : TabT w0) (r : Str) (hF : Wz p0 = some r) :
    Calls Tryz.prog 112 [(vI p0)].toArray w0 (fun en w' => ∃ v, en = .returned v ∧ (v = (vS r) ∧ Kept (Old w0) w0 w')) := by
  refine yS (n := 5) Tryz.func112 rfl rfl (Nat.le_of_ble_eq_true rfl) rfl ?_
  intro a hE
  have hM := M.start w0
  unfold Wz at hF
  refine Zc ?_
  refine YO hE Za (by decide) rfl ?_; intro a hE
  refine Ze ?_
  refine Zc ?_
  refine Zh hE Za (by decide) rfl ?_; intro a hE
  obtain ⟨r1, e2, hF⟩ := bind_some hF
  refine ZW (vs := [(vI p0), (vI 10)]) hE Za (by decide) rfl cb134 (JU _ p0 10 (hT.kept hM.kept) r1 e2) ?_
  rintro v w a ⟨rfl, hK⟩ hE
  have hM := hM.keep hK
  refine YO hE Za (by decide) rfl ?_; intro a hE
  refine Ze ?_
  have hr := Option.some.inj hF
  subst hr
  exact wp_ret (Yb hE rfl (Zl hE rfl) ⟨_, rfl, rfl, hM.kept⟩)
/-- What readDecimal answers. -/
def rdec (l : List UInt8) : Int × Bool := match Lib.parseIntB 64 l with
  | .ok n => if n < 0 ∨ 9 < l.length ∨ Lib.itoa n ≠ l then (0, false) else (n, true)
  | _ => (0, false)
noncomputable def Y0 (p0 : Str) : Option (Int × Bool) := if p0.l.length ≤ 281474976710656 then some (rdec p0.l) else none
noncomputable def G_rd (p0 : Str) (r1 : Int × Bool) : Option (Int × Bool) :=
  (if r1.2 = true then (some true) else (if (decide (r1.1 < 0)) = true then (some true) else (if (decide ((p0.l.length : Int) > 9)) = true then (some true) else ((Wz r1.1).bind fun (r12 : Str) => some (!decide (r12 = p0))))) : Option (Bool)).bind fun (j3 : Bool) => if j3 = true then (some (0, false)) else (some (r1.1, true))
theorem Za5 {p0 : Str} {r : Int × Bool} (h : Y0 p0 = some r) : p0.l.length ≤ 281474976710656 := by
  unfold Y0 at h
  split at h
  · assumption
  · cases h
theorem rd_of {p0 : Str} {r r1 : Int × Bool} (h : Y0 p0 = some r) (hp : (r1.2 = false ∧ Lib.parseIntB 64 p0.l = .ok r1.1) ∨ (r1.2 = true ∧ ∀ k, Lib.parseIntB 64 p0.l ≠ .ok k)) : G_rd p0 r1 = some r := by
  obtain ⟨n, b⟩ := r1
  unfold Y0 at h
  rw [if_pos (Za5 h)] at h
  rw [← h]
  unfold rdec G_rd
  rcases hp with ⟨hb, hp⟩ | ⟨hb, hp⟩
  · simp only at hb hp
    subst hb
    obtain ⟨h0, h1⟩ := Lib.parseIntB_bounds hp
    simp only [hp]
    have hdec : Wz n = some ⟨Lib.itoa n⟩ := by
      unfold Wz WP
      rw [if_pos ⟨rfl, by omega, by omega⟩]; rfl
    simp only [hdec, Option.bind_some]
    have hb : ∀ q : Str, (Str.mk (Lib.itoa n) = q) ↔ Lib.itoa n = q.l := fun q => ⟨fun h => by rw [← h], fun h => by obtain ⟨l⟩ := q; simp only at h; rw [h]⟩
    by_cases a1 : n < 0
    · simp [a1]
    · by_cases a2 : 9 < p0.l.length
      · have a5 : (9 : Int) < (p0.l.length : Int) := by omega
        simp [a1, a2, a5]
      · have a5 : ¬ (9 : Int) < (p0.l.length : Int) := by omega
        by_cases a3 : Lib.itoa n = p0.l
        · simp [a1, a2, a3, a5]
        · have a4 : ¬ Str.mk (Lib.itoa n) = p0 := fun h => a3 ((hb p0).1 h)
          simp [a1, a2, a3, a4, a5]
  · simp only at hb
    subst hb
    match hq : Lib.parseIntB 64 p0.l with
    | Lib.NumEnd.ok k => exact absurd hq (hp k)
    | Lib.NumEnd.syntax => rfl
    | Lib.NumEnd.range => rfl
theorem ty142m : Tryz.prog.underlying 142 = some (.interface (Tryz.prog.methodsAt 142)) := Tryz.underlying142.trans (congrArg some (by kernel_rfl))
set_option maxRecDepth 20000 in
set_option maxHeartbeats 400000 in
theorem Hv (w0 : World) (p0 : Str) (hT : TabT w0) (r : Int × Bool) (hF : Y0 p0 = some r) :
    Calls Tryz.prog 72 [(vS p0)].toArray w0 (fun en w' => ∃ v, en = .returned v ∧ (v = (Value.tuple [(vI r.1), (vT r.2)].toArray) ∧ Kept (Old w0) w0 w')) := by
  refine yS (n := 29) Tryz.func72 rfl rfl (Nat.le_of_ble_eq_true rfl) rfl ?_
  intro a hE
  have hM := M.start w0
  have hl0 := Za5 hF
  refine Zc ?_
  refine YO hE Za (by decide) rfl ?_; intro a hE
  refine YO hE Za (by decide) rfl ?_; intro a hE
  refine Ze ?_
  refine Zc ?_
  refine Zh hE Za (by decide) rfl ?_; intro a hE
  refine ZW (vs := [(vS p0), (vI 10), (vI 64)]) hE Za (by decide) rfl cb117 (Hj _ p0 hl0 (hT.kept hM.kept)) ?_
  rintro v w a ⟨⟨n1, e1, b1, rfl, he1, hp1⟩, hK⟩ hE
  obtain ⟨r1, rfl, rfl⟩ : ∃ r1 : Int × Bool, r1.1 = n1 ∧ r1.2 = b1 := ⟨(n1, b1), rfl, rfl⟩
  have hF := rd_of hF hp1
  unfold G_rd at hF
  have hM := hM.keep hK
  refine Zh hE Za (by decide) rfl ?_; intro a hE
  refine Zt hE Za (by decide) rfl rfl ?_; intro a hE
  refine Zt hE Za (by decide) rfl rfl ?_; intro a hE
  refine YO hE Za (by decide) rfl ?_; intro a hE
  refine YO hE Za (by decide) rfl ?_; intro a hE
  refine Ze ?_
  refine wp_seq ?_
  obtain ⟨j3, hl4, hF5⟩ := bind_some hF
  refine Zx (fun a w => Env 29 a [(4, (vI r1.1)), (27, (vT j3))] ∧ M (Old w0) w0 w []) ?_ ?_
  · skip
    refine wp_region_lit ?_
    refine Zh hE Za (by decide) rfl ?_; intro a hE
    refine s_neI hE Za (by decide) rfl ty142m he1 ?_; intro a hE
    refine Zh hE Za (by decide) rfl ?_; intro a hE
    refine ZO r1.2 (fun hb6 => ?_) (fun hb6 => ?_)
    · have hl4 := Zn hl4 hb6
      refine Zg hE rfl (lkb rfl hb6) rfl (by decide) ?_; intro a hE
      refine Zg hE rfl (lkb rfl hb6) rfl (by decide) ?_; intro a hE
      refine WT hE Za (by decide) (lkb rfl hb6) rfl ?_; intro a hE
      refine Zh hE Za (by decide) rfl ?_; intro a hE
      refine Zg hE rfl rfl rfl (by decide) ?_; intro a hE
      refine Zg hE rfl rfl rfl (by decide) ?_; intro a hE
      refine Zg hE rfl rfl rfl (by decide) ?_; intro a hE
      refine WT hE Za (by decide) rfl rfl ?_; intro a hE
      refine Zh hE Za (by decide) rfl ?_; intro a hE
      refine Zg hE rfl rfl rfl (by decide) ?_; intro a hE
      refine Zg hE rfl rfl rfl (by decide) ?_; intro a hE
      refine Zg hE rfl rfl rfl (by decide) ?_; intro a hE
      refine Zg hE rfl rfl rfl (by decide) ?_; intro a hE
      refine WT hE Za (by decide) rfl rfl ?_; intro a hE
      refine Zj ?_
      have ht7 := Option.some.inj hl4
      subst ht7
      refine Zi ?_
      exact ⟨hE.sub ⟨rfl, rfl, trivial⟩, hM⟩
    · have hl4 := Zo hl4 hb6
      refine Zh hE (Zf hE rfl (lkb rfl hb6)) (by decide) rfl ?_; intro a hE
      refine ZJ hE (Zf hE rfl (lkb rfl hb6)) (by decide) rfl rfl rfl ?_; intro a hE
      refine Wl hE Za (by decide) (lkb rfl hb6) rfl ?_; intro a hE
      refine Zh hE Za (by decide) rfl ?_; intro a hE
      refine ZO (decide (r1.1 < 0)) (fun hb8 => ?_) (fun hb8 => ?_)
      · have hl4 := Zn hl4 hb8
        refine Zg hE rfl (lkb rfl hb8) rfl (by decide) ?_; intro a hE
        refine Zg hE rfl (lkb rfl hb8) rfl (by decide) ?_; intro a hE
        refine Zg hE rfl (lkb rfl hb8) rfl (by decide) ?_; intro a hE
        refine WT hE Za (by decide) (lkb rfl hb8) rfl ?_; intro a hE
        refine Zh hE Za (by decide) rfl ?_; intro a hE
        refine Zg hE rfl rfl rfl (by decide) ?_; intro a hE
        refine Zg hE rfl rfl rfl (by decide) ?_; intro a hE
        refine Zg hE rfl rfl rfl (by decide) ?_; intro a hE
        refine Zg hE rfl rfl rfl (by decide) ?_; intro a hE
        refine WT hE Za (by decide) rfl rfl ?_; intro a hE
        refine Zj ?_
        have ht9 := Option.some.inj hl4
        subst ht9
        refine Zi ?_
        exact ⟨hE.sub ⟨rfl, rfl, trivial⟩, hM⟩
      · have hl4 := Zo hl4 hb8
        refine Zh hE (Zf hE rfl (lkb rfl hb8)) (by decide) rfl ?_; intro a hE
        refine V1 hE (Zf hE rfl (lkb rfl hb8)) (by decide) rfl Tryz.underlying9 ?_; intro a hE
        refine ZJ hE (Zf hE rfl (lkb rfl hb8)) (by decide) rfl rfl rfl ?_; intro a hE
        refine Wl hE Za (by decide) (lkb rfl hb8) rfl ?_; intro a hE
        refine Zh hE Za (by decide) rfl ?_; intro a hE
        refine ZO (decide ((p0.l.length : Int) > 9)) (fun hb10 => ?_) (fun hb10 => ?_)
        · have hl4 := Zn hl4 hb10
          refine Zg hE rfl (lkb rfl hb10) rfl (by decide) ?_; intro a hE
          refine Zg hE rfl (lkb rfl hb10) rfl (by decide) ?_; intro a hE
          refine Zg hE rfl (lkb rfl hb10) rfl (by decide) ?_; intro a hE
          refine Zg hE rfl (lkb rfl hb10) rfl (by decide) ?_; intro a hE
          refine WT hE Za (by decide) (lkb rfl hb10) rfl ?_; intro a hE
          refine Zj ?_
          have ht11 := Option.some.inj hl4
          subst ht11
          refine Zi ?_
          exact ⟨hE.sub ⟨rfl, rfl, trivial⟩, hM⟩
        · have hl4 := Zo hl4 hb10
          refine Zh hE (Zf hE rfl (lkb rfl hb10)) (by decide) rfl ?_; intro a hE
          obtain ⟨r12, e13, hl4⟩ := bind_some hl4
          refine ZW (vs := [(vI r1.1)]) hE (Zf hE rfl (lkb rfl hb10)) (by decide) rfl cb112 (Je _ r1.1 (hT.kept hM.kept) r12 e13) ?_
          rintro v w a ⟨rfl, hK⟩ hE
          have hM := hM.keep hK
          refine Zh hE (Zf hE rfl (lkb rfl hb10)) (by decide) rfl ?_; intro a hE
          refine s_neS hE (Zf hE rfl (lkb rfl hb10)) (by decide) rfl rfl ?_; intro a hE
          refine Wl hE Za (by decide) (lkb rfl hb10) rfl ?_; intro a hE
          refine Zj ?_
          have ht14 := Option.some.inj hl4
          subst ht14
          refine Zi ?_
          exact ⟨hE.sub ⟨rfl, rfl, trivial⟩, hM⟩
  · skip
    rintro a w ⟨hE, hM⟩
    refine Zm hE rfl ?_ ?_
    · intro hb15
      have hF5 := Zn hF5 hb15
      refine Zc ?_
      refine YO hE Za (by decide) rfl ?_; intro a hE
      refine YO hE Za (by decide) rfl ?_; intro a hE
      refine Ze ?_
      have hr := Option.some.inj hF5
      subst hr
      exact wp_ret (Zr (Z0 hE rfl (Zl hE rfl) (Zl hE rfl) ⟨_, rfl, rfl, hM.kept⟩))
    · intro hb15
      have hF5 := Zo hF5 hb15
      refine wp_skip ?_
      refine Zu ?_
      refine Zc ?_
      refine Zh hE Za (by decide) rfl ?_; intro a hE
      refine YO hE Za (by decide) rfl ?_; intro a hE
      refine YO hE Za (by decide) rfl ?_; intro a hE
      refine Ze ?_
      have hr := Option.some.inj hF5
      subst hr
      exact wp_ret (Z0 hE rfl (Zl hE rfl) (Zl hE rfl) ⟨_, rfl, rfl, hM.kept⟩)
end Go.Proofs.YtfhhlkkhcoaapaaGreatDoor
