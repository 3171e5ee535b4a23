/- Of this claim's texts what it needs, part 9. -/
import Derived.Shelf.Strings.Trim
import Derived.Shelf.Small.Utf8
import Derived.Shelf.Small.Strs
import Derived.Shelf.Utf8.RuneCount
import Derived.Shelf.Strconv.Atoi
import Derived.Shelf.Strconv.Itoa0
import Derived.Shelf.Strconv.Itoa1
import Derived.Shelf.LaysM
import Derived.Shelf.Strconv.Itoa2
import Derived.Shelf.Strconv.Itoa3
import Derived.Shelf.Strconv.AtoiErrFast
import Derived.Shelf.Strconv.ParseIntEmpty
import Derived.Shelf.Strconv.AtoiFail
import Derived.Shelf.Strconv.Clone
import Derived.Shelf.Strconv.SyntaxError
import Derived.Shelf.LaysC
import Derived.Shelf.Strconv.ToError
import Derived.Shelf.Strconv.Lower
import Derived.Shelf.Strconv.ParseUint10
import Derived.Shelf.Strconv.ParseUint10Empty
import Derived.Shelf.Strconv.ParseUint10Any
import Derived.Shelf.Strconv.ParseInt10
import Derived.Shelf.Strconv.AtoiLong
import Derived.Shelf.Strconv.AtoiInnerAll
import Derived.Shelf.Strconv.RangeError
import Derived.Shelf.Strconv.ToErrorRange
import Derived.Shelf.Strconv.AtoiAll
import Derived.Shelf.Strings.Search1
import Derived.Shelf.Strings.Search2
import Derived.Shelf.Strings.Search3
import Derived.Shelf.Strings.Cut
import Derived.Shelf.Strings.Count
import Derived.Shelf.Strings.Shaped
import Derived.Shelf.Strings.Split
import Derived.Shelf.Strings.SplitShaped
import Derived.Shelf.Unicode.Decode
import Derived.Shelf.Strings.Runes
import Derived.Shelf.Strings.RuneCount
import Derived.Shelf.Strings.AsciiSet
import Derived.Shelf.Strings.Explode
import Derived.Shelf.Unicode.DecodeSlow
import Derived.Shelf.Unicode.DecodeAny
import Derived.Shelf.Unicode.DecodeLast
import Derived.Test.YtkeklbicmfhemaaDoorProg
import Derived.Shelf.Strings.SlTrimAscii
import Derived.Test.YtkeklbicmfhemaaDoorKScriptTellsRow8
namespace Go.Proofs
open Go.Shelf
def Tryd.laysM171_ren : Go.Shelf.Ren := ⟨fun | 171 => 35 | 243 => 52 | 246 => 73 | 283 => 88 | 284 => 89 | 285 => 90 | 286 => 91 | 129 => 105 | 317 => 104 | 318 => 106 | 319 => 107 | 320 => 108 | 337 => 115 | 338 => 116 | n => n, fun | 3 => 3 | 9 => 9 | 2 => 2 | 4 => 4 | 171 => 133 | 0 => 0 | 53 => 134 | 37 => 27 | 5 => 5 | 173 => 137 | 212 => 151 | 51 => 152 | 20 => 20 | 213 => 153 | 46 => 142 | 232 => 169 | 233 => 170 | n => n, fun | 17 => 3 | 18 => 6 | 19 => 7 | n => n⟩
theorem Tryd.laysM171 : Go.Proofs.LaysM.n171 Tryd.prog Tryd.laysM171_ren := {
  mixed := by kernel_rfl
  f129 := Tryd.func105.trans (congrArg some (by kernel_rfl))
  f171 := Tryd.func35.trans (congrArg some (by kernel_rfl))
  f243 := Tryd.func52.trans (congrArg some (by kernel_rfl))
  f246 := Tryd.func73.trans (congrArg some (by kernel_rfl))
  f283 := Tryd.func88.trans (congrArg some (by kernel_rfl))
  f284 := Tryd.func89.trans (congrArg some (by kernel_rfl))
  f285 := Tryd.func90.trans (congrArg some (by kernel_rfl))
  f286 := Tryd.func91.trans (congrArg some (by kernel_rfl))
  f317 := Tryd.func104.trans (congrArg some (by kernel_rfl))
  f318 := Tryd.func106.trans (congrArg some (by kernel_rfl))
  f319 := Tryd.func107.trans (congrArg some (by kernel_rfl))
  f320 := Tryd.func108.trans (congrArg some (by kernel_rfl))
  f337 := Tryd.func115.trans (congrArg some (by kernel_rfl))
  f338 := Tryd.func116.trans (congrArg some (by kernel_rfl))
  t0 := Tryd.underlying0
  a0 := Tryd.isAgg0
  z0 := Tryd.sizeOf0
  v0 := Tryd.zeroValue0
  t2 := Tryd.underlying2
  a2 := Tryd.isAgg2
  z2 := Tryd.sizeOf2
  v2 := Tryd.zeroValue2
  t3 := Tryd.underlying3
  a3 := Tryd.isAgg3
  z3 := Tryd.sizeOf3
  v3 := Tryd.zeroValue3
  t4 := Tryd.underlying4
  a4 := Tryd.isAgg4
  z4 := Tryd.sizeOf4
  v4 := Tryd.zeroValue4
  t5 := Tryd.underlying5
  a5 := Tryd.isAgg5
  z5 := Tryd.sizeOf5
  v5 := Tryd.zeroValue5
  t9 := Tryd.underlying9
  a9 := Tryd.isAgg9
  z9 := Tryd.sizeOf9
  v9 := Tryd.zeroValue9
  t20 := Tryd.underlying20
  a20 := Tryd.isAgg20
  z20 := Tryd.sizeOf20
  v20 := Tryd.zeroValue20
  t37 := Tryd.underlying27
  a37 := Tryd.isAgg27
  z37 := Tryd.sizeOf27
  v37 := Tryd.zeroValue27
  t46 := Tryd.underlying142
  a46 := Tryd.isAgg142
  z46 := Tryd.sizeOf142
  v46 := Tryd.zeroValue142
  t51 := Tryd.underlying152
  a51 := Tryd.isAgg152
  z51 := Tryd.sizeOf152
  v51 := Tryd.zeroValue152
  t53 := Tryd.underlying134
  a53 := Tryd.isAgg134
  z53 := Tryd.sizeOf134
  v53 := Tryd.zeroValue134
  t171 := Tryd.underlying133
  a171 := Tryd.isAgg133
  z171 := Tryd.sizeOf133
  v171 := Tryd.zeroValue133
  t173 := Tryd.underlying137
  a173 := Tryd.isAgg137
  z173 := Tryd.sizeOf137
  v173 := Tryd.zeroValue137
  t212 := Tryd.underlying151
  a212 := Tryd.isAgg151
  z212 := Tryd.sizeOf151
  v212 := Tryd.zeroValue151
  t213 := Tryd.underlying153
  a213 := Tryd.isAgg153
  z213 := Tryd.sizeOf153
  t232 := Tryd.underlying169
  a232 := Tryd.isAgg169
  z232 := Tryd.sizeOf169
  v232 := Tryd.zeroValue169
  t233 := Tryd.underlying170
  a233 := Tryd.isAgg170
  z233 := Tryd.sizeOf170
  v233 := Tryd.zeroValue170
  g17 := by kernel_rfl
  g18 := by kernel_rfl
  g19 := by kernel_rfl
  i0 := by kernel_rfl
  i2 := by kernel_rfl
  i3 := by kernel_rfl
  i4 := by kernel_rfl
  i5 := by kernel_rfl
  i9 := by kernel_rfl
  i20 := by kernel_rfl
  i37 := by kernel_rfl
  i46 := by kernel_rfl
  i51 := by kernel_rfl
  i53 := by kernel_rfl
  i171 := by kernel_rfl
  i173 := by kernel_rfl
  i212 := by kernel_rfl
  i232 := by kernel_rfl
  i233 := by kernel_rfl
  m17 := by kernel_rfl
  m18 := by kernel_rfl
  m19 := by kernel_rfl }
open Go.RowKit Go.Sort Go.Lib in
theorem Tryd.strconv_Itoa (n : Int) (h0 : -9223372036854775808 ≤ n) (h1 : n ≤ 9223372036854775807) (w : World) (htab : Lib.TabIs Tryd.prog w "internal/strconv.uint64pow10" .u64 Lib.pow10Tab) :
    Calls Tryd.prog 35 #[.int .i64 n] w fun e w' => e = .returned (.string ⟨(Lib.itoa n).toArray⟩) ∧ ∃ k os, w' = grow (w.drewN k) os := Any.strconv_Itoa Tryd.laysM171 n h0 h1 w htab
def Tryd.laysC172_ren : Go.Shelf.Ren := ⟨fun | 172 => 38 | 244 => 61 | 245 => 62 | 247 => 79 | 279 => 80 | 280 => 81 | 281 => 82 | 282 => 83 | 287 => 95 | 316 => 96 | 171 => 35 | 205 => 97 | 321 => 111 | 322 => 112 | 243 => 52 | 246 => 73 | 283 => 88 | 284 => 89 | 285 => 90 | 286 => 91 | 129 => 105 | 317 => 104 | 318 => 106 | 319 => 107 | 320 => 108 | 337 => 115 | 338 => 116 | n => n, fun | 9 => 9 | 3 => 3 | 75 => 76 | 76 => 77 | 4 => 4 | 5 => 5 | 167 => 124 | 37 => 27 | 0 => 0 | 85 => 125 | 2 => 2 | 168 => 127 | 53 => 134 | 175 => 140 | 46 => 142 | 210 => 145 | 127 => 162 | 145 => 165 | 143 => 163 | 21 => 21 | 171 => 133 | 173 => 137 | 212 => 151 | 51 => 152 | 20 => 20 | 213 => 153 | 232 => 169 | 233 => 170 | 80 => 83 | n => n, fun | 15 => 0 | 16 => 1 | 17 => 3 | 18 => 6 | 19 => 7 | n => n⟩
theorem Tryd.laysC172 : Go.Proofs.LaysC.n172 Tryd.prog Tryd.laysC172_ren := {
  mixed := by kernel_rfl
  f129 := Tryd.func105.trans (congrArg some (by kernel_rfl))
  f171 := Tryd.func35.trans (congrArg some (by kernel_rfl))
  f172 := Tryd.func38.trans (congrArg some (by kernel_rfl))
  f205 := Tryd.func97.trans (congrArg some (by kernel_rfl))
  f243 := Tryd.func52.trans (congrArg some (by kernel_rfl))
  f244 := Tryd.func61.trans (congrArg some (by kernel_rfl))
  f245 := Tryd.func62.trans (congrArg some (by kernel_rfl))
  f246 := Tryd.func73.trans (congrArg some (by kernel_rfl))
  f247 := Tryd.func79.trans (congrArg some (by kernel_rfl))
  f279 := Tryd.func80.trans (congrArg some (by kernel_rfl))
  f280 := Tryd.func81.trans (congrArg some (by kernel_rfl))
  f281 := Tryd.func82.trans (congrArg some (by kernel_rfl))
  f282 := Tryd.func83.trans (congrArg some (by kernel_rfl))
  f283 := Tryd.func88.trans (congrArg some (by kernel_rfl))
  f284 := Tryd.func89.trans (congrArg some (by kernel_rfl))
  f285 := Tryd.func90.trans (congrArg some (by kernel_rfl))
  f286 := Tryd.func91.trans (congrArg some (by kernel_rfl))
  f287 := Tryd.func95.trans (congrArg some (by kernel_rfl))
  f316 := Tryd.func96.trans (congrArg some (by kernel_rfl))
  f317 := Tryd.func104.trans (congrArg some (by kernel_rfl))
  f318 := Tryd.func106.trans (congrArg some (by kernel_rfl))
  f319 := Tryd.func107.trans (congrArg some (by kernel_rfl))
  f320 := Tryd.func108.trans (congrArg some (by kernel_rfl))
  f321 := Tryd.func111.trans (congrArg some (by kernel_rfl))
  f322 := Tryd.func112.trans (congrArg some (by kernel_rfl))
  f337 := Tryd.func115.trans (congrArg some (by kernel_rfl))
  f338 := Tryd.func116.trans (congrArg some (by kernel_rfl))
  t0 := Tryd.underlying0
  a0 := Tryd.isAgg0
  z0 := Tryd.sizeOf0
  v0 := Tryd.zeroValue0
  t2 := Tryd.underlying2
  a2 := Tryd.isAgg2
  z2 := Tryd.sizeOf2
  v2 := Tryd.zeroValue2
  t3 := Tryd.underlying3
  a3 := Tryd.isAgg3
  z3 := Tryd.sizeOf3
  v3 := Tryd.zeroValue3
  t4 := Tryd.underlying4
  a4 := Tryd.isAgg4
  z4 := Tryd.sizeOf4
  v4 := Tryd.zeroValue4
  t5 := Tryd.underlying5
  a5 := Tryd.isAgg5
  z5 := Tryd.sizeOf5
  v5 := Tryd.zeroValue5
  t9 := Tryd.underlying9
  a9 := Tryd.isAgg9
  z9 := Tryd.sizeOf9
  v9 := Tryd.zeroValue9
  t20 := Tryd.underlying20
  a20 := Tryd.isAgg20
  z20 := Tryd.sizeOf20
  v20 := Tryd.zeroValue20
  t21 := Tryd.underlying21
  a21 := Tryd.isAgg21
  z21 := Tryd.sizeOf21
  v21 := Tryd.zeroValue21
  t37 := Tryd.underlying27
  a37 := Tryd.isAgg27
  z37 := Tryd.sizeOf27
  v37 := Tryd.zeroValue27
  t46 := Tryd.underlying142
  a46 := Tryd.isAgg142
  z46 := Tryd.sizeOf142
  v46 := Tryd.zeroValue142
  t51 := Tryd.underlying152
  a51 := Tryd.isAgg152
  z51 := Tryd.sizeOf152
  v51 := Tryd.zeroValue152
  t53 := Tryd.underlying134
  a53 := Tryd.isAgg134
  z53 := Tryd.sizeOf134
  v53 := Tryd.zeroValue134
  t75 := Tryd.underlying76
  a75 := Tryd.isAgg76
  z75 := Tryd.sizeOf76
  v75 := Tryd.zeroValue76
  t76 := Tryd.underlying77
  a76 := Tryd.isAgg77
  z76 := Tryd.sizeOf77
  v76 := Tryd.zeroValue77
  t85 := Tryd.underlying125
  a85 := Tryd.isAgg125
  z85 := Tryd.sizeOf125
  v85 := Tryd.zeroValue125
  t127 := Tryd.underlying162
  a127 := Tryd.isAgg162
  z127 := Tryd.sizeOf162
  v127 := Tryd.zeroValue162
  t143 := Tryd.underlying163
  a143 := Tryd.isAgg163
  z143 := Tryd.sizeOf163
  v143 := Tryd.zeroValue163
  t145 := Tryd.underlying165
  a145 := Tryd.isAgg165
  z145 := Tryd.sizeOf165
  v145 := Tryd.zeroValue165
  t167 := Tryd.underlying124
  a167 := Tryd.isAgg124
  z167 := Tryd.sizeOf124
  v167 := Tryd.zeroValue124
  t168 := Tryd.underlying127
  a168 := Tryd.isAgg127
  z168 := Tryd.sizeOf127
  v168 := Tryd.zeroValue127
  t171 := Tryd.underlying133
  a171 := Tryd.isAgg133
  z171 := Tryd.sizeOf133
  v171 := Tryd.zeroValue133
  t173 := Tryd.underlying137
  a173 := Tryd.isAgg137
  z173 := Tryd.sizeOf137
  v173 := Tryd.zeroValue137
  t175 := Tryd.underlying140
  a175 := Tryd.isAgg140
  z175 := Tryd.sizeOf140
  v175 := Tryd.zeroValue140
  t210 := Tryd.underlying145
  a210 := Tryd.isAgg145
  z210 := Tryd.sizeOf145
  v210 := Tryd.zeroValue145
  t212 := Tryd.underlying151
  a212 := Tryd.isAgg151
  z212 := Tryd.sizeOf151
  v212 := Tryd.zeroValue151
  t213 := Tryd.underlying153
  a213 := Tryd.isAgg153
  z213 := Tryd.sizeOf153
  t232 := Tryd.underlying169
  a232 := Tryd.isAgg169
  z232 := Tryd.sizeOf169
  v232 := Tryd.zeroValue169
  t233 := Tryd.underlying170
  a233 := Tryd.isAgg170
  z233 := Tryd.sizeOf170
  v233 := Tryd.zeroValue170
  g15 := by kernel_rfl
  g16 := by kernel_rfl
  g17 := by kernel_rfl
  g18 := by kernel_rfl
  g19 := by kernel_rfl
  t80 := Tryd.underlying83
  a80 := Tryd.isAgg83
  z80 := Tryd.sizeOf83
  v80 := Tryd.zeroValue83
  i0 := by kernel_rfl
  i2 := by kernel_rfl
  i3 := by kernel_rfl
  i4 := by kernel_rfl
  i5 := by kernel_rfl
  i9 := by kernel_rfl
  i20 := by kernel_rfl
  i21 := by kernel_rfl
  i37 := by kernel_rfl
  i46 := by kernel_rfl
  i51 := by kernel_rfl
  i53 := by kernel_rfl
  i75 := by kernel_rfl
  i76 := by kernel_rfl
  i80 := by kernel_rfl
  i85 := by kernel_rfl
  i127 := by kernel_rfl
  i143 := by kernel_rfl
  i145 := by kernel_rfl
  i167 := by kernel_rfl
  i168 := by kernel_rfl
  i171 := by kernel_rfl
  i173 := by kernel_rfl
  i175 := by kernel_rfl
  i210 := by kernel_rfl
  i212 := by kernel_rfl
  i232 := by kernel_rfl
  i233 := by kernel_rfl
  m15 := by kernel_rfl
  m16 := by kernel_rfl
  m17 := by kernel_rfl
  m18 := by kernel_rfl
  m19 := by kernel_rfl
  c0 := by kernel_rfl
  c2 := by kernel_rfl
  c3 := by kernel_rfl
  c4 := by kernel_rfl
  c5 := by kernel_rfl
  c9 := by kernel_rfl
  c20 := by kernel_rfl
  c21 := by kernel_rfl
  c37 := by kernel_rfl
  c46 := by kernel_rfl
  c51 := by kernel_rfl
  c53 := by kernel_rfl
  c75 := by kernel_rfl
  c76 := by kernel_rfl
  c80 := by kernel_rfl
  c85 := by kernel_rfl
  c127 := by kernel_rfl
  c143 := by kernel_rfl
  c145 := by kernel_rfl
  c167 := by kernel_rfl
  c168 := by kernel_rfl
  c171 := by kernel_rfl
  c173 := by kernel_rfl
  c175 := by kernel_rfl
  c210 := by kernel_rfl
  c212 := by kernel_rfl
  c213 := by kernel_rfl
  c232 := by kernel_rfl
  c233 := by kernel_rfl }
open Go.RowKit in
theorem Tryd.strconv_Atoi_ok (s : ByteArray) (hmax : s.size ≤ 9223372036854775806) (v : Int) (h : Lib.atoiAll s.data.toList = .ok v) (w : World) :
    Calls Tryd.prog 38 #[.string s] w fun e w' => e = .returned (.tuple #[.int .i64 v, .nilIface]) ∧ (w' = w ∨ ∃ t, w' = Lib.bytesWorld w 5 t) := Any.strconv_Atoi_ok Tryd.laysC172 s hmax v h w
open Go.RowKit in
theorem Tryd.strconv_Atoi_syntax (s : ByteArray) (hlim : s.size ≤ 281474976710656) (h : Lib.atoiAll s.data.toList = Lib.atoiAll []) (ev : Value) (w : World) (hv : w.cell? ⟨0, 0, none⟩ = some ev) (hev : ev = .nilIface ∨ ∃ te pe, ev = .iface te pe) :
    Calls Tryd.prog 38 #[.string s] w fun e w' => ∃ N, e = .returned (.tuple #[.int .i64 (0), .iface 127 (.pointer (some ⟨N, 0, none⟩))]) ∧ w.heap.size ≤ N ∧ w'.heap[N]? = some (.cells #[.string ⟨#[65, 116, 111, 105]⟩, .string s, ev] 145 (0, 0)) ∧ Below w.heap.size w w' := Any.strconv_Atoi_syntax Tryd.laysC172 s hlim h ev w hv hev
open Go.RowKit in
theorem Tryd.strconv_Atoi_range (s : ByteArray) (hlim : s.size ≤ 281474976710656) (h : Lib.atoiAll s.data.toList = .range) (ev : Value) (w : World) (hv : w.cell? ⟨1, 0, none⟩ = some ev) (hev : ev = .nilIface ∨ ∃ te pe, ev = .iface te pe) :
    Calls Tryd.prog 38 #[.string s] w fun e w' => ∃ N, e = .returned (.tuple #[.int .i64 (Lib.atoiSat s.data.toList), .iface 127 (.pointer (some ⟨N, 0, none⟩))]) ∧ w.heap.size ≤ N ∧ w'.heap[N]? = some (.cells #[.string ⟨#[65, 116, 111, 105]⟩, .string s, ev] 145 (0, 0)) ∧ Below w.heap.size w w' := Any.strconv_Atoi_range Tryd.laysC172 s hlim h ev w hv hev
def Tryd.lays144_ren : Go.Shelf.Ren := ⟨fun | 144 => 42 | 143 => 66 | 219 => 84 | 217 => 98 | 225 => 99 | 224 => 100 | 267 => 101 | 266 => 113 | 314 => 114 | n => n, fun | 9 => 9 | 4 => 4 | 3 => 3 | 5 => 5 | 46 => 142 | 146 => 166 | 51 => 152 | n => n, fun | 1 => 2 | n => n⟩
theorem Tryd.lays144 : Go.Proofs.Lays.n144 Tryd.prog Tryd.lays144_ren := {
  mixed := by kernel_rfl
  f143 := Tryd.func66.trans (congrArg some (by kernel_rfl))
  f144 := Tryd.func42.trans (congrArg some (by kernel_rfl))
  f217 := Tryd.func98.trans (congrArg some (by kernel_rfl))
  f219 := Tryd.func84.trans (congrArg some (by kernel_rfl))
  f224 := Tryd.func100.trans (congrArg some (by kernel_rfl))
  f225 := Tryd.func99.trans (congrArg some (by kernel_rfl))
  f266 := Tryd.func113.trans (congrArg some (by kernel_rfl))
  f267 := Tryd.func101.trans (congrArg some (by kernel_rfl))
  f314 := Tryd.func114.trans (congrArg some (by kernel_rfl))
  t3 := Tryd.underlying3
  a3 := Tryd.isAgg3
  z3 := Tryd.sizeOf3
  v3 := Tryd.zeroValue3
  t4 := Tryd.underlying4
  a4 := Tryd.isAgg4
  z4 := Tryd.sizeOf4
  v4 := Tryd.zeroValue4
  t5 := Tryd.underlying5
  a5 := Tryd.isAgg5
  z5 := Tryd.sizeOf5
  v5 := Tryd.zeroValue5
  t9 := Tryd.underlying9
  a9 := Tryd.isAgg9
  z9 := Tryd.sizeOf9
  v9 := Tryd.zeroValue9
  t46 := Tryd.underlying142
  a46 := Tryd.isAgg142
  z46 := Tryd.sizeOf142
  v46 := Tryd.zeroValue142
  t51 := Tryd.underlying152
  a51 := Tryd.isAgg152
  z51 := Tryd.sizeOf152
  v51 := Tryd.zeroValue152
  t146 := Tryd.underlying166
  a146 := Tryd.isAgg166
  z146 := Tryd.sizeOf166
  v146 := Tryd.zeroValue166
  g1 := by kernel_rfl }
open Go.RowKit Go.Lib in
theorem Tryd.strings_Contains (s sub : ByteArray) (m : Int) (w : World) (hs : s.size < 4294967281) (hm : w.cell? ⟨2, 0, none⟩ = some (.int .i64 m)) :
    Calls Tryd.prog 42 #[.string s, .string sub] w fun e w' => e = .returned (.bool (Lib.contains s.data.toList sub.data.toList)) ∧ w' = w := Any.strings_Contains Tryd.lays144 s sub m w hs hm
def Tryd.lays145_ren : Go.Shelf.Ren := ⟨fun | 145 => 39 | 220 => 63 | 219 => 84 | 217 => 98 | 225 => 99 | 224 => 100 | 267 => 101 | 266 => 113 | 314 => 114 | n => n, fun | 9 => 9 | 4 => 4 | 59 => 79 | 3 => 3 | 5 => 5 | 46 => 142 | 146 => 166 | 51 => 152 | n => n, fun | 1 => 2 | n => n⟩
theorem Tryd.lays145 : Go.Proofs.Lays.n145 Tryd.prog Tryd.lays145_ren := {
  mixed := by kernel_rfl
  f145 := Tryd.func39.trans (congrArg some (by kernel_rfl))
  f217 := Tryd.func98.trans (congrArg some (by kernel_rfl))
  f219 := Tryd.func84.trans (congrArg some (by kernel_rfl))
  f220 := Tryd.func63.trans (congrArg some (by kernel_rfl))
  f224 := Tryd.func100.trans (congrArg some (by kernel_rfl))
  f225 := Tryd.func99.trans (congrArg some (by kernel_rfl))
  f266 := Tryd.func113.trans (congrArg some (by kernel_rfl))
  f267 := Tryd.func101.trans (congrArg some (by kernel_rfl))
  f314 := Tryd.func114.trans (congrArg some (by kernel_rfl))
  t3 := Tryd.underlying3
  a3 := Tryd.isAgg3
  z3 := Tryd.sizeOf3
  v3 := Tryd.zeroValue3
  t4 := Tryd.underlying4
  a4 := Tryd.isAgg4
  z4 := Tryd.sizeOf4
  v4 := Tryd.zeroValue4
  t5 := Tryd.underlying5
  a5 := Tryd.isAgg5
  z5 := Tryd.sizeOf5
  v5 := Tryd.zeroValue5
  t9 := Tryd.underlying9
  a9 := Tryd.isAgg9
  z9 := Tryd.sizeOf9
  v9 := Tryd.zeroValue9
  t46 := Tryd.underlying142
  a46 := Tryd.isAgg142
  z46 := Tryd.sizeOf142
  v46 := Tryd.zeroValue142
  t51 := Tryd.underlying152
  a51 := Tryd.isAgg152
  z51 := Tryd.sizeOf152
  v51 := Tryd.zeroValue152
  t59 := Tryd.underlying79
  a59 := Tryd.isAgg79
  z59 := Tryd.sizeOf79
  v59 := Tryd.zeroValue79
  t146 := Tryd.underlying166
  a146 := Tryd.isAgg166
  z146 := Tryd.sizeOf166
  v146 := Tryd.zeroValue166
  g1 := by kernel_rfl }
open Go.RowKit Go.Lib in
theorem Tryd.strings_Cut (s sep : ByteArray) (m : Int) (w : World) (hs : s.size < 4294967281) (hm : w.cell? ⟨2, 0, none⟩ = some (.int .i64 m)) :
    Calls Tryd.prog 39 #[.string s, .string sep] w fun e w' => e = .returned (.tuple #[.string ⟨(Lib.cut s.data.toList sep.data.toList).1.toArray⟩, .string ⟨(Lib.cut s.data.toList sep.data.toList).2.1.toArray⟩, .bool (Lib.cut s.data.toList sep.data.toList).2.2]) ∧ ∃ n, w' = w.drewN n := Any.strings_Cut Tryd.lays145 s sep m w hs hm
def Tryd.lays160_ren : Go.Shelf.Ren := ⟨fun | 160 => 37 | 232 => 55 | 231 => 54 | 227 => 56 | 234 => 58 | 233 => 57 | 236 => 60 | 235 => 59 | 228 => 75 | 271 => 78 | 151 => 77 | 197 => 76 | 120 => 94 | 152 => 93 | 260 => 92 | 137 => 109 | 119 => 110 | 224 => 100 | 225 => 99 | 217 => 98 | 266 => 113 | n => n, fun | 9 => 9 | 4 => 4 | 3 => 3 | 5 => 5 | 117 => 108 | 116 => 107 | 0 => 0 | 124 => 111 | 21 => 21 | 105 => 121 | 46 => 142 | 119 => 155 | 139 => 158 | 138 => 157 | n => n, fun | 3 => 4 | 4 => 5 | n => n⟩
theorem Tryd.lays160 : Go.Proofs.Lays.n160 Tryd.prog Tryd.lays160_ren := {
  mixed := by kernel_rfl
  f119 := Tryd.func110.trans (congrArg some (by kernel_rfl))
  f120 := Tryd.func94.trans (congrArg some (by kernel_rfl))
  f137 := Tryd.func109.trans (congrArg some (by kernel_rfl))
  f151 := Tryd.func77.trans (congrArg some (by kernel_rfl))
  f152 := Tryd.func93.trans (congrArg some (by kernel_rfl))
  f160 := Tryd.func37.trans (congrArg some (by kernel_rfl))
  f197 := Tryd.func76.trans (congrArg some (by kernel_rfl))
  f217 := Tryd.func98.trans (congrArg some (by kernel_rfl))
  f224 := Tryd.func100.trans (congrArg some (by kernel_rfl))
  f225 := Tryd.func99.trans (congrArg some (by kernel_rfl))
  f227 := Tryd.func56.trans (congrArg some (by kernel_rfl))
  f228 := Tryd.func75.trans (congrArg some (by kernel_rfl))
  f231 := Tryd.func54.trans (congrArg some (by kernel_rfl))
  f232 := Tryd.func55.trans (congrArg some (by kernel_rfl))
  f233 := Tryd.func57.trans (congrArg some (by kernel_rfl))
  f234 := Tryd.func58.trans (congrArg some (by kernel_rfl))
  f235 := Tryd.func59.trans (congrArg some (by kernel_rfl))
  f236 := Tryd.func60.trans (congrArg some (by kernel_rfl))
  f260 := Tryd.func92.trans (congrArg some (by kernel_rfl))
  f266 := Tryd.func113.trans (congrArg some (by kernel_rfl))
  f271 := Tryd.func78.trans (congrArg some (by kernel_rfl))
  t0 := Tryd.underlying0
  a0 := Tryd.isAgg0
  z0 := Tryd.sizeOf0
  v0 := Tryd.zeroValue0
  t3 := Tryd.underlying3
  a3 := Tryd.isAgg3
  z3 := Tryd.sizeOf3
  v3 := Tryd.zeroValue3
  t4 := Tryd.underlying4
  a4 := Tryd.isAgg4
  z4 := Tryd.sizeOf4
  v4 := Tryd.zeroValue4
  t5 := Tryd.underlying5
  a5 := Tryd.isAgg5
  z5 := Tryd.sizeOf5
  v5 := Tryd.zeroValue5
  t9 := Tryd.underlying9
  a9 := Tryd.isAgg9
  z9 := Tryd.sizeOf9
  v9 := Tryd.zeroValue9
  t21 := Tryd.underlying21
  a21 := Tryd.isAgg21
  z21 := Tryd.sizeOf21
  v21 := Tryd.zeroValue21
  t46 := Tryd.underlying142
  a46 := Tryd.isAgg142
  z46 := Tryd.sizeOf142
  v46 := Tryd.zeroValue142
  t105 := Tryd.underlying121
  a105 := Tryd.isAgg121
  z105 := Tryd.sizeOf121
  v105 := Tryd.zeroValue121
  t116 := Tryd.underlying107
  a116 := Tryd.isAgg107
  z116 := Tryd.sizeOf107
  t117 := Tryd.underlying108
  a117 := Tryd.isAgg108
  z117 := Tryd.sizeOf108
  v117 := Tryd.zeroValue108
  t119 := Tryd.underlying155
  a119 := Tryd.isAgg155
  z119 := Tryd.sizeOf155
  t124 := Tryd.underlying111
  a124 := Tryd.isAgg111
  z124 := Tryd.sizeOf111
  v124 := Tryd.zeroValue111
  t138 := Tryd.underlying157
  a138 := Tryd.isAgg157
  z138 := Tryd.sizeOf157
  v138 := Tryd.zeroValue157
  t139 := Tryd.underlying158
  a139 := Tryd.isAgg158
  z139 := Tryd.sizeOf158
  v139 := Tryd.zeroValue158
  g3 := by kernel_rfl
  g4 := by kernel_rfl }
end Go.Proofs
namespace Go.Proofs.YtkeklbicmfhemaaDoorV
open Go Go.RowKit
set_option maxRecDepth 100000
theorem tabIs_go {P : Program} {G : Nat → Option (List PV)} {w : World} {S : Nat → Prop} {name : String} {k : IntKind} {zs : List Int} {g : Nat} (hgo : GOk G w S) (hg : P.globalNamed name = some g) (hG : G g = some (zs.map (PV.int k))) : Lib.TabIs P w name k zs := by
  obtain ⟨_, h1, C, t, fr, h2, h3⟩ := hgo g _ hG
  unfold Lib.TabIs World.var?
  rw [hg, Option.bind_some, h2]
  simp only [Option.some.injEq]
  apply Array.ext'
  apply List.ext_getElem?
  intro i
  rw [List.length_map] at h3
  simp only [List.getElem?_map]
  by_cases hi : i < zs.length
  · obtain ⟨u, hu, _, hr⟩ := relCs_get h1 (i := i) (p := PV.int k zs[i]) (by simp [List.getElem?_map, hi])
    rw [cell_of_row w g _ C t fr h2, Nat.zero_add] at hu
    simp only [rel] at hr
    rw [Array.getElem?_toList, hu, hr, List.getElem?_eq_getElem hi]
    rfl
  · rw [List.getElem?_eq_none (by simp; omega), List.getElem?_eq_none (by omega)]
    rfl
theorem wint_go {G : Nat → Option (List PV)} {w : World} {S : Nat → Prop} {k : IntKind} {g : Nat} (hgo : GOk G w S) (hG : G g = some [.wint k]) : ∃ m, w.cell? ⟨g, 0, none⟩ = some (.int k m) := by
  obtain ⟨_, h1, _⟩ := hgo g _ hG
  obtain ⟨u, hu, _, hr⟩ := relCs_get h1 (i := 0) rfl
  simp only [rel] at hr
  obtain ⟨m, rfl⟩ := hr
  exact ⟨m, hu⟩
theorem err_go {G : Nat → Option (List PV)} {w : World} {S : Nat → Prop} {g : Nat} (hgo : GOk G w S) (hG : G g = some [.err]) : ∃ ev, w.cell? ⟨g, 0, none⟩ = some ev ∧ (ev = .nilIface ∨ ∃ te pe, ev = .iface te pe) := by
  obtain ⟨_, h1, _⟩ := hgo g _ hG
  obtain ⟨u, hu, _, hr⟩ := relCs_get h1 (i := 0) rfl
  simp only [rel] at hr
  exact ⟨u, hu, .inr hr⟩
theorem rel_one_arg {w : World} {S : Nat → Prop} {p : PV} {us : List Value} (h : relL w S [p] us) : ∃ u, us = [u] ∧ rel w S p u := by
  simp only [relL] at h
  obtain ⟨u, us', rfl, h1, rfl⟩ := h
  exact ⟨u, rfl, h1⟩
theorem rel_two_args {w : World} {S : Nat → Prop} {p q : PV} {us : List Value} (h : relL w S [p, q] us) : ∃ u v, us = [u, v] ∧ rel w S p u ∧ rel w S q v := by
  simp only [relL] at h
  obtain ⟨u, us', rfl, h1, v, vs, rfl, h2, rfl⟩ := h
  exact ⟨u, v, rfl, h1, h2⟩
theorem below_grow (w : World) (k : Nat) (os : Array Obj) : Below w.heap.size w (Sort.grow (w.drewN k) os) :=
  ⟨rfl, rfl, rfl, by simp [Sort.grow, World.drewN], fun i hi => by
    show ((w.drewN k).heap ++ os)[i]? = _
    rw [Array.getElem?_append_left (by simpa [World.drewN] using hi)]
    rfl⟩
theorem below_drewN (w : World) (k : Nat) : Below w.heap.size w (w.drewN k) := ⟨rfl, rfl, rfl, Nat.le_refl _, fun _ _ => rfl⟩
theorem below_bytes (w : World) (e : TypeId) (s : ByteArray) : Below w.heap.size w (Lib.bytesWorld w e s) := Lib.bytesWorld_below w e s
theorem itoaS_all : Holds Tryd.prog G0 35 itoaS_C := by
  refine holds_lib Tryd.func35 rfl rfl (by simp [itoaS_C]) rfl fun w S ps us r outs hr hst hgo hx => ?_
  obtain ⟨y, hy, hx⟩ := bind_inv hx
  cases hx
  change itoaS_D ps = some y at hy
  unfold itoaS_D at hy
  split at hy
  case h_2 => cases hy
  rename_i n
  unfold sItoa at hy
  split at hy
  case isFalse => cases hy
  rename_i hn
  cases hy
  obtain ⟨u, rfl, hu⟩ := rel_one_arg hr
  simp only [rel] at hu
  subst hu
  have hn' := hn
  simp only [inI, decide_eq_true_eq] at hn'
  have htab : Lib.TabIs Tryd.prog w "internal/strconv.uint64pow10" .u64 Lib.pow10Tab := tabIs_go hgo (g := 3) (by kernel_rfl) (by kernel_rfl)
  refine ⟨rfl, (Tryd.strconv_Itoa n hn'.1 (by omega) w htab).mono ?_⟩
  rintro e w' ⟨rfl, k, os, rfl⟩
  refine ⟨_, rfl, below_grow _ _ _, fun _ => False, fun b h => h.elim, fun S'' _ => ?_⟩
  rw [dig_itoa hn]
  simp only [itoaS_E, rel]
  rfl
theorem atoiS_all : Holds Tryd.prog G0 38 atoiS_C := by
  refine holds_lib Tryd.func38 rfl rfl (by simp [atoiS_C]) rfl fun w S ps us r outs hr hst hgo hx => ?_
  obtain ⟨y, hy, hx⟩ := bind_inv hx
  cases hx
  change atoiS_D ps = some y at hy
  unfold atoiS_D at hy
  split at hy
  case h_2 => cases hy
  rename_i s
  unfold sAtoi at hy
  split at hy
  case isFalse => cases hy
  rename_i hs
  cases hy
  obtain ⟨u, rfl, hu⟩ := rel_one_arg hr
  simp only [rel] at hu
  subst hu
  unfold lim at hs
  refine ⟨rfl, ?_⟩
  split
  · rename_i v hv
    refine (Tryd.strconv_Atoi_ok s (by omega) v hv w).mono ?_
    rintro e w' ⟨rfl, hw⟩
    refine ⟨_, rfl, ?_, fun _ => False, fun b h => h.elim, fun S'' _ => ?_⟩
    · rcases hw with rfl | ⟨t, rfl⟩
      · exact Below.refl _ _
      · exact below_bytes _ _ _
    · simp only [atoiS_E, rel, relL]; exact ⟨_, rfl, _, _, rfl, rfl, _, _, rfl, rfl, rfl⟩
  · rename_i hv
    obtain ⟨ev, h1, h2⟩ := err_go (g := 1) hgo rfl
    refine (Tryd.strconv_Atoi_range s (by omega) hv ev w h1 h2).mono ?_
    rintro e w' ⟨N, rfl, _, _, hb⟩
    refine ⟨_, rfl, hb, fun _ => False, fun b h => h.elim, fun S'' _ => ?_⟩
    simp only [atoiS_E, rel, relL]; exact ⟨_, rfl, _, _, rfl, rfl, _, _, rfl, ⟨_, _, rfl⟩, rfl⟩
  · rename_i n1 n2
    have hv : Lib.atoiAll s.data.toList = Lib.atoiAll [] := by
      cases h : Lib.atoiAll s.data.toList
      · exact absurd h (n1 _)
      · rfl
      · exact absurd h n2
    obtain ⟨ev, h1, h2⟩ := err_go (g := 0) hgo rfl
    refine (Tryd.strconv_Atoi_syntax s (by omega) hv ev w h1 h2).mono ?_
    rintro e w' ⟨N, rfl, _, _, hb⟩
    refine ⟨_, rfl, hb, fun _ => False, fun b h => h.elim, fun S'' _ => ?_⟩
    simp only [atoiS_E, rel, relL]; exact ⟨_, rfl, _, _, rfl, rfl, _, _, rfl, ⟨_, _, rfl⟩, rfl⟩
theorem cutS_all : Holds Tryd.prog G0 39 cutS_C := by
  refine holds_lib Tryd.func39 rfl rfl (by simp [cutS_C]) rfl fun w S ps us r outs hr hst hgo hx => ?_
  obtain ⟨y, hy, hx⟩ := bind_inv hx
  cases hx
  change cutS_D ps = some y at hy
  unfold cutS_D at hy
  split at hy
  case h_2 => cases hy
  rename_i s t
  unfold sCut at hy
  split at hy
  case isFalse => cases hy
  rename_i hs
  cases hy
  obtain ⟨u, v, rfl, hu, hv⟩ := rel_two_args hr
  simp only [rel] at hu hv
  subst hu hv
  unfold lim at hs
  obtain ⟨m, hm⟩ := wint_go (g := 2) hgo rfl
  refine ⟨rfl, (Tryd.strings_Cut s t m w (by omega) hm).mono ?_⟩
  rintro e w' ⟨rfl, n, rfl⟩
  refine ⟨_, rfl, below_drewN _ _, fun _ => False, fun b h => h.elim, fun S'' _ => ?_⟩
  simp only [cutS_E, rel, relL]; exact ⟨_, rfl, _, _, rfl, rfl, _, _, rfl, rfl, _, _, rfl, rfl, rfl⟩
theorem containsS_all : Holds Tryd.prog G0 42 containsS_C := by
  refine holds_lib Tryd.func42 rfl rfl (by simp [containsS_C]) rfl fun w S ps us r outs hr hst hgo hx => ?_
  obtain ⟨y, hy, hx⟩ := bind_inv hx
  cases hx
  change containsS_D ps = some y at hy
  unfold containsS_D at hy
  split at hy
  case h_2 => cases hy
  rename_i s t
  unfold sContains at hy
  split at hy
  case isFalse => cases hy
  rename_i hs
  cases hy
  obtain ⟨u, v, rfl, hu, hv⟩ := rel_two_args hr
  simp only [rel] at hu hv
  subst hu hv
  unfold lim at hs
  obtain ⟨m, hm⟩ := wint_go (g := 2) hgo rfl
  refine ⟨rfl, (Tryd.strings_Contains s t m w (by omega) hm).mono ?_⟩
  rintro e w' ⟨rfl, rfl⟩
  refine ⟨_, rfl, Below.refl _ _, fun _ => False, fun b h => h.elim, fun S'' _ => ?_⟩
  simp only [containsS_E, rel]
theorem trimS_all : Holds Tryd.prog G0 37 trimS_C := by
  refine holds_lib Tryd.func37 rfl rfl (by simp [trimS_C]) rfl fun w S ps us r outs hr hst hgo hx => ?_
  obtain ⟨y, hy, hx⟩ := bind_inv hx
  cases hx
  change trimS_D ps = some y at hy
  unfold trimS_D at hy
  split at hy
  case h_2 => cases hy
  rename_i s t
  unfold sTrim at hy
  split at hy
  case isFalse => cases hy
  rename_i hs
  obtain ⟨hs, ht, ha⟩ := hs
  cases hy
  obtain ⟨u, v, rfl, hu, hv⟩ := rel_two_args hr
  simp only [rel] at hu hv
  subst hu hv
  unfold lim at hs ht
  refine ⟨rfl, (Any.strings_Trim_laid Tryd.lays160 (by kernel_rfl) s t w (by omega) (by omega) (ascii_of_all ha)).mono ?_⟩
  rintro e w' ⟨rfl, hb⟩
  refine ⟨_, rfl, hb, fun _ => False, fun b h => h.elim, fun S'' _ => ?_⟩
  simp only [trimS_E, rel]
  rfl
end Go.Proofs.YtkeklbicmfhemaaDoorV
namespace Go.Proofs.YtkeklbicmfhemaaDoorV
open Go
set_option maxRecDepth 100000
theorem hasPre_all : Holds Tryd.prog G0 74 hasPre_C := hasPre_holds trivial
theorem trimPre0_all : Holds Tryd.prog G0 53 trimPre0_C := trimPre0_holds (by simp only [trimPre0_Γ, HoldsAll, CalOk]; exact ⟨hasPre_all, trivial⟩)
theorem trimPre_all : Holds Tryd.prog G0 36 trimPre_C := trimPre_holds (by simp only [trimPre_Γ, HoldsAll, CalOk]; exact ⟨trimPre0_all, trivial⟩)
end Go.Proofs.YtkeklbicmfhemaaDoorV
namespace Go.Proofs.YtkeklbicmfhemaaDoorV
open Go
def intV (l : List UInt8) : Int × Bool := match intOf l with | some n => (n, true) | none => (0, false)
def sRDigits (n : Int) : Option ByteArray := sItoa n
def sRInt (s : ByteArray) : Option (Int × Bool) := if s.size ≤ lim then some (intV s.data.toList) else none
def big : Nat := 1099511627776
def mega : Nat := 1048576
end Go.Proofs.YtkeklbicmfhemaaDoorV
namespace Go.Proofs.YtkeklbicmfhemaaDoorV
open Go
set_option maxRecDepth 100000
set_option linter.unusedVariables false
set_option linter.unusedSimpArgs false
noncomputable section
def within_b {R : Type} (v1 : Int) (n2 : Int) (k : Int → Option R) : Option R :=
  cond (decide (n2 < (1 : Int))) (
    k 0) (
    if n2 = 0 then none else
    cond (decide ((Int.tmod v1 n2) < (0 : Int))) (
      k (IntKind.i64.wrap ((Int.tmod v1 n2) + n2))) (
      k (Int.tmod v1 n2)))
def within_E (y : Int) : PV × List PV := ((PV.int .i64 y), [])
def within_d (v1 : Int) (n2 : Int) : Option (Int) := within_b v1 n2 fun a0 => some a0
def within_D : List PV → Option (Int)
  | [(PV.int .i64 v1), (PV.int .i64 n2)] => within_d v1 n2
  | _ => none
def within_Γ : List (Nat × Cal) := []
def within_C : Ctr := ⟨[none, none], Int, within_D, within_E, true, .d⟩
theorem within_eq (v1 : Int) (n2 : Int) :
    funK T G0 (ctrOf within_Γ) noL .d true [none, none] (funOf Tryd.f16) [(PV.int .i64 v1), (PV.int .i64 n2)] = within_b  v1 n2 (fun a0 => some (within_E a0)) := by kernel_rfl
theorem within_inv {ps : List PV} {y : Int} (h : within_D ps = some y) : ∃ (v1 : Int) (n2 : Int), ps = [(PV.int .i64 v1), (PV.int .i64 n2)] := by
  unfold within_D at h
  split at h
  · exact ⟨_, _, rfl⟩
  · cases h
theorem within_nat {R : Type} (v1 : Int) (n2 : Int) (k : Int → Option R) : within_b v1 n2 k = Option.bind (within_b v1 n2 fun a0 => some a0) fun y => k y := by
  unfold within_b
  first | rfl | simp only [Option.bind_assoc, bind_cond, bind_ite, Option.bind_some, Option.bind_none]
theorem within_holds (hΓ : HoldsAll Tryd.prog G0 within_Γ) : Holds Tryd.prog G0 16 within_C := by
  refine fun_ok mixed tOk (ctrOf_ok hΓ) Tryd.func16 rfl rfl rfl rfl (F := funOf Tryd.f16) (fun ps x h => ?_)
  obtain ⟨y, hy, hx⟩ := bind_inv h
  cases hx
  obtain ⟨v1, n2, rfl⟩ := within_inv hy
  have hy' : within_d v1 n2 = some y := hy
  refine ⟨noL, noL_ok _, (within_eq v1 n2).trans ?_⟩
  unfold within_d at hy'
  rw [within_nat, hy']
  rfl
end
end Go.Proofs.YtkeklbicmfhemaaDoorV
namespace Go.Proofs.YtkeklbicmfhemaaDoorV
open Go
set_option maxRecDepth 100000
set_option linter.unusedVariables false
set_option linter.unusedSimpArgs false
noncomputable section
def digits_b {R : Type} (n1 : Int) (k : ByteArray → Option R) : Option R :=
  Option.bind (sItoa n1) fun y2 =>
  k y2
def digits_E (y : ByteArray) : PV × List PV := ((PV.str y), [])
def digits_d (n1 : Int) : Option (ByteArray) := digits_b n1 fun a0 => some a0
def digits_D : List PV → Option (ByteArray)
  | [(PV.int .i64 n1)] => digits_d n1
  | _ => none
def digits_Γ : List (Nat × Cal) := [(35, .ctr itoaS_C)]
def digits_C : Ctr := ⟨[none], ByteArray, digits_D, digits_E, true, .d⟩
theorem digits_eq (n1 : Int) :
    funK T G0 (ctrOf digits_Γ) noL .d true [none] (funOf Tryd.f14) [(PV.int .i64 n1)] = digits_b  n1 (fun a0 => some (digits_E a0)) := by kernel_rfl
theorem digits_inv {ps : List PV} {y : ByteArray} (h : digits_D ps = some y) : ∃ (n1 : Int), ps = [(PV.int .i64 n1)] := by
  unfold digits_D at h
  split at h
  · exact ⟨_, rfl⟩
  · cases h
theorem digits_nat {R : Type} (n1 : Int) (k : ByteArray → Option R) : digits_b n1 k = Option.bind (digits_b n1 fun a0 => some a0) fun y => k y := by
  unfold digits_b
  first | rfl | simp only [Option.bind_assoc, bind_cond, bind_ite, Option.bind_some, Option.bind_none]
theorem digits_holds (hΓ : HoldsAll Tryd.prog G0 digits_Γ) : Holds Tryd.prog G0 14 digits_C := by
  refine fun_ok mixed tOk (ctrOf_ok hΓ) Tryd.func14 rfl rfl rfl rfl (F := funOf Tryd.f14) (fun ps x h => ?_)
  obtain ⟨y, hy, hx⟩ := bind_inv h
  cases hx
  obtain ⟨n1, rfl⟩ := digits_inv hy
  have hy' : digits_d n1 = some y := hy
  refine ⟨noL, noL_ok _, (digits_eq n1).trans ?_⟩
  unfold digits_d at hy'
  rw [digits_nat, hy']
  rfl
def sInt_b {R : Type} (s1 : ByteArray) (k : Int → Bool → Option R) : Option R :=
  Option.bind (trimPre_d s1 (ByteArray.mk #[45])) fun y2 =>
  cond (decide (((y2).size : Int) < (1 : Int))) (
    k 0 false) (
    cond (decide (((y2).size : Int) > (18 : Int))) (
      k 0 false) (
      Option.bind (sTrim y2 (ByteArray.mk #[48, 49, 50, 51, 52, 53, 54, 55, 56, 57])) fun y3 =>
      cond (!(ByteArray.toList y3 == ByteArray.toList (ByteArray.mk #[]))) (
        k 0 false) (
        Option.bind (sAtoi s1) fun y4 =>
        if (PV.one y4.2) = true then
          Option.bind (PV.asNil y4.2) fun b5 =>
          cond (!b5) (
            k 0 false) (
            Option.bind (digits_d y4.1) fun y6 =>
            cond (!(ByteArray.toList y6 == ByteArray.toList s1)) (
              k 0 false) (
              k y4.1 true))
        else none)))
def sInt_E (y : Int × Bool) : PV × List PV := ((PV.tuple [(PV.int .i64 y.1), (PV.bool y.2)]), [])
def sInt_d (s1 : ByteArray) : Option (Int × Bool) := sInt_b s1 fun a0 a1 => some (a0, a1)
def sInt_D : List PV → Option (Int × Bool)
  | [(PV.str s1)] => sInt_d s1
  | _ => none
def sInt_Γ : List (Nat × Cal) := [(36, .ctr trimPre_C), (37, .ctr trimS_C), (38, .ctr atoiS_C), (14, .ctr digits_C)]
def sInt_C : Ctr := ⟨[none], Int × Bool, sInt_D, sInt_E, true, .d⟩
theorem sInt_eq (s1 : ByteArray) :
    funK T G0 (ctrOf sInt_Γ) noL .d true [none] (funOf Tryd.f17) [(PV.str s1)] = sInt_b  s1 (fun a0 a1 => some (sInt_E (a0, a1))) := by kernel_rfl
theorem sInt_inv {ps : List PV} {y : Int × Bool} (h : sInt_D ps = some y) : ∃ (s1 : ByteArray), ps = [(PV.str s1)] := by
  unfold sInt_D at h
  split at h
  · exact ⟨_, rfl⟩
  · cases h
theorem sInt_nat {R : Type} (s1 : ByteArray) (k : Int → Bool → Option R) : sInt_b s1 k = Option.bind (sInt_b s1 fun a0 a1 => some (a0, a1)) fun y => k y.1 y.2 := by
  unfold sInt_b
  first | rfl | simp only [Option.bind_assoc, bind_cond, bind_ite, Option.bind_some, Option.bind_none]
theorem sInt_holds (hΓ : HoldsAll Tryd.prog G0 sInt_Γ) : Holds Tryd.prog G0 17 sInt_C := by
  refine fun_ok mixed tOk (ctrOf_ok hΓ) Tryd.func17 rfl rfl rfl rfl (F := funOf Tryd.f17) (fun ps x h => ?_)
  obtain ⟨y, hy, hx⟩ := bind_inv h
  cases hx
  obtain ⟨s1, rfl⟩ := sInt_inv hy
  have hy' : sInt_d s1 = some y := hy
  refine ⟨noL, noL_ok _, (sInt_eq s1).trans ?_⟩
  unfold sInt_d at hy'
  rw [sInt_nat, hy']
  rfl
def rDigits_l3 {R : Type} : Nat → Int → ByteArray → Int → (Int → ByteArray → Option R) → Option R
  | 0, _, _, _, _ => none
  | n + 1, n4, s5, m6, k0 =>
    cond (m6 != (0 : Int)) (
      cond (decide ((Int.tmod m6 (10 : Int)) < (0 : Int))) (
        if (0 : Int) ≤ (IntKind.i64.wrap (0 - (Int.tmod m6 (10 : Int)))) ∧ (IntKind.i64.wrap (0 - (Int.tmod m6 (10 : Int)))) ≤ (IntKind.i64.wrap ((IntKind.i64.wrap (0 - (Int.tmod m6 (10 : Int)))) + (1 : Int))) ∧ (IntKind.i64.wrap ((IntKind.i64.wrap (0 - (Int.tmod m6 (10 : Int)))) + (1 : Int))) ≤ (10 : Int) then
          if ((ByteArray.extract (ByteArray.mk #[48, 49, 50, 51, 52, 53, 54, 55, 56, 57]) (Int.toNat (IntKind.i64.wrap (0 - (Int.tmod m6 (10 : Int))))) (Int.toNat (IntKind.i64.wrap ((IntKind.i64.wrap (0 - (Int.tmod m6 (10 : Int)))) + (1 : Int)))))).size + (s5).size ≤ 140737488355328 then
            rDigits_l3 n n4 ((ByteArray.extract (ByteArray.mk #[48, 49, 50, 51, 52, 53, 54, 55, 56, 57]) (Int.toNat (IntKind.i64.wrap (0 - (Int.tmod m6 (10 : Int))))) (Int.toNat (IntKind.i64.wrap ((IntKind.i64.wrap (0 - (Int.tmod m6 (10 : Int)))) + (1 : Int))))) ++ s5) (IntKind.i64.wrap (Int.tdiv m6 (10 : Int))) k0
          else none
        else none) (
        if (0 : Int) ≤ (Int.tmod m6 (10 : Int)) ∧ (Int.tmod m6 (10 : Int)) ≤ (IntKind.i64.wrap ((Int.tmod m6 (10 : Int)) + (1 : Int))) ∧ (IntKind.i64.wrap ((Int.tmod m6 (10 : Int)) + (1 : Int))) ≤ (10 : Int) then
          if ((ByteArray.extract (ByteArray.mk #[48, 49, 50, 51, 52, 53, 54, 55, 56, 57]) (Int.toNat (Int.tmod m6 (10 : Int))) (Int.toNat (IntKind.i64.wrap ((Int.tmod m6 (10 : Int)) + (1 : Int)))))).size + (s5).size ≤ 140737488355328 then
            rDigits_l3 n n4 ((ByteArray.extract (ByteArray.mk #[48, 49, 50, 51, 52, 53, 54, 55, 56, 57]) (Int.toNat (Int.tmod m6 (10 : Int))) (Int.toNat (IntKind.i64.wrap ((Int.tmod m6 (10 : Int)) + (1 : Int))))) ++ s5) (IntKind.i64.wrap (Int.tdiv m6 (10 : Int))) k0
          else none
        else none)) (
      cond (ByteArray.toList s5 == ByteArray.toList (ByteArray.mk #[])) (
        cond (decide ((Int.tmod m6 (10 : Int)) < (0 : Int))) (
          if (0 : Int) ≤ (IntKind.i64.wrap (0 - (Int.tmod m6 (10 : Int)))) ∧ (IntKind.i64.wrap (0 - (Int.tmod m6 (10 : Int)))) ≤ (IntKind.i64.wrap ((IntKind.i64.wrap (0 - (Int.tmod m6 (10 : Int)))) + (1 : Int))) ∧ (IntKind.i64.wrap ((IntKind.i64.wrap (0 - (Int.tmod m6 (10 : Int)))) + (1 : Int))) ≤ (10 : Int) then
            if ((ByteArray.extract (ByteArray.mk #[48, 49, 50, 51, 52, 53, 54, 55, 56, 57]) (Int.toNat (IntKind.i64.wrap (0 - (Int.tmod m6 (10 : Int))))) (Int.toNat (IntKind.i64.wrap ((IntKind.i64.wrap (0 - (Int.tmod m6 (10 : Int)))) + (1 : Int)))))).size + (s5).size ≤ 140737488355328 then
              rDigits_l3 n n4 ((ByteArray.extract (ByteArray.mk #[48, 49, 50, 51, 52, 53, 54, 55, 56, 57]) (Int.toNat (IntKind.i64.wrap (0 - (Int.tmod m6 (10 : Int))))) (Int.toNat (IntKind.i64.wrap ((IntKind.i64.wrap (0 - (Int.tmod m6 (10 : Int)))) + (1 : Int))))) ++ s5) (IntKind.i64.wrap (Int.tdiv m6 (10 : Int))) k0
            else none
          else none) (
          if (0 : Int) ≤ (Int.tmod m6 (10 : Int)) ∧ (Int.tmod m6 (10 : Int)) ≤ (IntKind.i64.wrap ((Int.tmod m6 (10 : Int)) + (1 : Int))) ∧ (IntKind.i64.wrap ((Int.tmod m6 (10 : Int)) + (1 : Int))) ≤ (10 : Int) then
            if ((ByteArray.extract (ByteArray.mk #[48, 49, 50, 51, 52, 53, 54, 55, 56, 57]) (Int.toNat (Int.tmod m6 (10 : Int))) (Int.toNat (IntKind.i64.wrap ((Int.tmod m6 (10 : Int)) + (1 : Int)))))).size + (s5).size ≤ 140737488355328 then
              rDigits_l3 n n4 ((ByteArray.extract (ByteArray.mk #[48, 49, 50, 51, 52, 53, 54, 55, 56, 57]) (Int.toNat (Int.tmod m6 (10 : Int))) (Int.toNat (IntKind.i64.wrap ((Int.tmod m6 (10 : Int)) + (1 : Int))))) ++ s5) (IntKind.i64.wrap (Int.tdiv m6 (10 : Int))) k0
            else none
          else none)) (
        k0 n4 s5))
def rDigits_b {R : Type} (n : Nat) (n1 : Int) (k : ByteArray → Option R) : Option R :=
  rDigits_l3 n n1 (ByteArray.mk #[]) n1
    (fun (n2 : Int) (s3 : ByteArray) =>
      cond (decide (n2 < (0 : Int))) (
        if ((ByteArray.mk #[45])).size + (s3).size ≤ 140737488355328 then
          k ((ByteArray.mk #[45]) ++ s3)
        else none) (
        k s3))
def rDigits_E (y : ByteArray) : PV × List PV := ((PV.str y), [])
def rDigits_D : List PV → Option (ByteArray)
  | [(PV.int .i64 n1)] => sRDigits n1
  | _ => none
def rDigits_Γ : List (Nat × Cal) := []
def rDigits_C : Ctr := ⟨[none], ByteArray, rDigits_D, rDigits_E, true, .d⟩
def rDigits_cfg : List (Nat × LC) := [(3, ⟨[0, 3, 4], [], [], []⟩),
  (1003000, ⟨[0, 3], [], [], []⟩)]
def rDigits_pat : Nat → Option SP
  | 3 => some ⟨sparse .undef [(0, (.val (.int .i64))), (3, (.val .str)), (4, (.val (.int .i64)))] 0 32, [], []⟩
  | _ => none
def rDigits_patj : Nat → Option SP
  | _ => none
def rDigits_L3 (n : Nat) (ls : List Leaf) (R : Type) (k : Ex → St → Option R) : Option R :=
  match ls with
  | [.int n4, .str s5, .int m6] => rDigits_l3 n n4 s5 m6 (fun y1007 y1008 => k (.exit 0) ⟨sparse .undef [(0, (TV.val (PV.int .i64 y1007))), (3, (TV.val (PV.str y1008)))] 0 32, [], []⟩)
  | _ => none
def rDigits_L (n key : Nat) (ls : List Leaf) (R : Type) (k : Ex → St → Option R) : Option R :=
  match key with
  | 3 => rDigits_L3 n ls R k
  | _ => none
def rDigits_J (n key : Nat) (ls : List Leaf) (R : Type) (k : Ex → St → Option R) : Option R :=
  match key with
  | _ => none
def rDigits_on : Code → Bool := fun _ => false
def rDigits_Λ : Nat → Loops := patL (normBy rDigits_cfg) rDigits_pat rDigits_L (normJ rDigits_cfg) rDigits_on rDigits_patj rDigits_J
theorem rDigits_step3 (n : Nat) (n4 : Int) (s5 : ByteArray) (m6 : Int)  (R : Type) (k : Ex → St → Option R) :
    roundK T G0 (ctrOf rDigits_Γ) (normBy rDigits_cfg) (rDigits_Λ n) (codeAt [1, 1, 0, 1, 0, 0] (bodyOf Tryd.f28)) (buildSt ⟨sparse .undef [(0, (.val (.int .i64))), (3, (.val .str)), (4, (.val (.int .i64)))] 0 32, [], []⟩ [.int n4, .str s5, .int m6]) R k = rDigits_L3 (n + 1) [.int n4, .str s5, .int m6] R k := by kernel_rfl
theorem rDigits_eq (n : Nat) (n1 : Int) :
    funK T G0 (ctrOf rDigits_Γ) (rDigits_Λ n) .d true [none] (funOf Tryd.f28) [(PV.int .i64 n1)] = rDigits_b n  n1 (fun a0 => some (rDigits_E a0)) := by kernel_rfl
theorem rDigits_inv {ps : List PV} {y : ByteArray} (h : rDigits_D ps = some y) : ∃ (n1 : Int), ps = [(PV.int .i64 n1)] := by
  unfold rDigits_D at h
  split at h
  · exact ⟨_, rfl⟩
  · cases h
theorem rDigits_loops : loopsOf (bodyOf Tryd.f28) = [codeAt [1, 1, 0, 1, 0, 0] (bodyOf Tryd.f28)] := by kernel_rfl
theorem rDigits_holds (hΓ : HoldsAll Tryd.prog G0 rDigits_Γ) (hok : ∀ (n1 : Int) (y : ByteArray), sRDigits n1 = some y → ∃ n, ∀ (R : Type) (k : ByteArray → Option R), rDigits_b n  n1 k = k y) : Holds Tryd.prog G0 28 rDigits_C := by
  refine fun_pat mixed tOk (ctrOf_ok hΓ) Tryd.func28 rfl rfl rfl rfl (F := funOf Tryd.f28) (normBy_ok rDigits_cfg) (pat := rDigits_pat) (L := rDigits_L) (normJ_ok rDigits_cfg) (on := rDigits_on) (patj := rDigits_patj) (J := rDigits_J) (fun c hc ls R k => ?_) (fun c hc p hp m ls R k r h => ?_) (fun c hc p hp m ls R k r h => ?_) (fun ps x h => ?_)
  · rw [show (funOf Tryd.f28).code = bodyOf Tryd.f28 from rfl, rDigits_loops] at hc
    simp only [List.mem_cons, List.not_mem_nil, or_false] at hc
    rcases hc with rfl
    · show rDigits_L3 0 ls R k = none
      unfold rDigits_L3
      split
      · rfl
      · rfl
  · rw [show (funOf Tryd.f28).code = bodyOf Tryd.f28 from rfl, rDigits_loops] at hc
    simp only [List.mem_cons, List.not_mem_nil, or_false] at hc
    rcases hc with rfl
    · have hp' : p = ⟨sparse .undef [(0, (.val (.int .i64))), (3, (.val .str)), (4, (.val (.int .i64)))] 0 32, [], []⟩ := (Option.some.inj (hp : some _ = some p)).symm
      subst hp'
      change rDigits_L3 (m + 1) ls R k = some r at h
      have h' := h
      unfold rDigits_L3 at h'
      split at h'
      · exact (rDigits_step3 m _ _ _ R k).trans h
      · cases h'
  · cases (List.mem_filter.1 hc).2
  · obtain ⟨y, hy, hx⟩ := bind_inv h
    cases hx
    obtain ⟨n1, rfl⟩ := rDigits_inv hy
    obtain ⟨n, hn⟩ := hok n1 y hy
    exact ⟨n, (rDigits_eq n n1).trans (hn _ _)⟩
def rInt_l8 {R : Type} : Nat → ByteArray → Bool → Int → Int → (Int → Bool → Option R) → (Bool → Int → Option R) → Option R
  | 0, _, _, _, _, _, _ => none
  | n + 1, s30, minus31, n32, i33, k0, k1 =>
    cond (decide (i33 < ((s30).size : Int))) (
      Option.bind (idx (s30).data.toList i33) fun u34 =>
      cond (decide ((u34.toNat : Int) < (48 : Int))) (
        k0 0 false) (
        Option.bind (idx (s30).data.toList i33) fun u35 =>
        cond (decide ((u35.toNat : Int) > (57 : Int))) (
          k0 0 false) (
          Option.bind (idx (s30).data.toList i33) fun u36 =>
          rInt_l8 n s30 minus31 (IntKind.i64.wrap ((IntKind.i64.wrap ((10 : Int) * n32)) + (IntKind.i64.wrap (IntKind.u8.wrap ((u36.toNat : Int) - (48 : Int)))))) (IntKind.i64.wrap (i33 + (1 : Int))) k0 k1))) (
      k1 minus31 n32)
def rInt_b {R : Type} (n : Nat) (s1 : ByteArray) (k : Int → Bool → Option R) : Option R :=
  cond (decide (((s1).size : Int) > (0 : Int))) (
    Option.bind (idx (s1).data.toList (0 : Int)) fun u2 =>
    cond ((u2.toNat : Int) == (45 : Int)) (
      if (0 : Int) ≤ (1 : Int) ∧ (1 : Int) ≤ ((s1).size : Int) ∧ ((s1).size : Int) ≤ ((s1).size : Int) then
        cond (decide ((((ByteArray.extract s1 1 (Int.toNat ((s1).size : Int)))).size : Int) < (1 : Int))) (
          k 0 false) (
          cond (decide ((((ByteArray.extract s1 1 (Int.toNat ((s1).size : Int)))).size : Int) > (18 : Int))) (
            k 0 false) (
            Option.bind (idx ((ByteArray.extract s1 1 (Int.toNat ((s1).size : Int)))).data.toList (0 : Int)) fun u3 =>
            cond ((u3.toNat : Int) == (48 : Int)) (
              cond (decide ((((ByteArray.extract s1 1 (Int.toNat ((s1).size : Int)))).size : Int) > (1 : Int))) (
                k 0 false) (
                cond ((u2.toNat : Int) == (45 : Int)) (
                  k 0 false) (
                  rInt_l8 n (ByteArray.extract s1 1 (Int.toNat ((s1).size : Int))) ((u2.toNat : Int) == (45 : Int)) 0 0 k
                    (fun (minus6 : Bool) (n7 : Int) =>
                      cond minus6 (
                        k (IntKind.i64.wrap (0 - n7)) true) (
                        k n7 true))))) (
              rInt_l8 n (ByteArray.extract s1 1 (Int.toNat ((s1).size : Int))) ((u2.toNat : Int) == (45 : Int)) 0 0 k
                (fun (minus10 : Bool) (n11 : Int) =>
                  cond minus10 (
                    k (IntKind.i64.wrap (0 - n11)) true) (
                    k n11 true)))))
      else none) (
      cond (decide (((s1).size : Int) < (1 : Int))) (
        k 0 false) (
        cond (decide (((s1).size : Int) > (18 : Int))) (
          k 0 false) (
          Option.bind (idx (s1).data.toList (0 : Int)) fun u12 =>
          cond ((u12.toNat : Int) == (48 : Int)) (
            cond (decide (((s1).size : Int) > (1 : Int))) (
              k 0 false) (
              cond ((u2.toNat : Int) == (45 : Int)) (
                k 0 false) (
                rInt_l8 n s1 ((u2.toNat : Int) == (45 : Int)) 0 0 k
                  (fun (minus15 : Bool) (n16 : Int) =>
                    cond minus15 (
                      k (IntKind.i64.wrap (0 - n16)) true) (
                      k n16 true))))) (
            rInt_l8 n s1 ((u2.toNat : Int) == (45 : Int)) 0 0 k
              (fun (minus19 : Bool) (n20 : Int) =>
                cond minus19 (
                  k (IntKind.i64.wrap (0 - n20)) true) (
                  k n20 true))))))) (
    cond (decide (((s1).size : Int) < (1 : Int))) (
      k 0 false) (
      cond (decide (((s1).size : Int) > (18 : Int))) (
        k 0 false) (
        Option.bind (idx (s1).data.toList (0 : Int)) fun u21 =>
        cond ((u21.toNat : Int) == (48 : Int)) (
          cond (decide (((s1).size : Int) > (1 : Int))) (
            k 0 false) (
            rInt_l8 n s1 false 0 0 k
              (fun (minus24 : Bool) (n25 : Int) =>
                cond minus24 (
                  k (IntKind.i64.wrap (0 - n25)) true) (
                  k n25 true)))) (
          rInt_l8 n s1 false 0 0 k
            (fun (minus28 : Bool) (n29 : Int) =>
              cond minus28 (
                k (IntKind.i64.wrap (0 - n29)) true) (
                k n29 true))))))
def rInt_E (y : Int × Bool) : PV × List PV := ((PV.tuple [(PV.int .i64 y.1), (PV.bool y.2)]), [])
def rInt_D : List PV → Option (Int × Bool)
  | [(PV.str s1)] => sRInt s1
  | _ => none
def rInt_Γ : List (Nat × Cal) := []
def rInt_C : Ctr := ⟨[none], Int × Bool, rInt_D, rInt_E, true, .d⟩
def rInt_cfg : List (Nat × LC) := [(8, ⟨[0, 4, 5, 6], [], [], []⟩),
  (2000008, ⟨[2, 3], [], [], []⟩),
  (1008000, ⟨[4, 5], [], [], []⟩)]
def rInt_pat : Nat → Option SP
  | 8 => some ⟨sparse .undef [(0, (.val .str)), (4, (.val .bool)), (5, (.val (.int .i64))), (6, (.val (.int .i64)))] 0 67, [], []⟩
  | _ => none
def rInt_patj : Nat → Option SP
  | _ => none
def rInt_L8 (n : Nat) (ls : List Leaf) (R : Type) (k : Ex → St → Option R) : Option R :=
  match ls with
  | [.str s30, .bool minus31, .int n32, .int i33] => rInt_l8 n s30 minus31 n32 i33 (fun y1037 y1038 => k .ret ⟨sparse .undef [(2, (TV.val (PV.int .i64 y1037))), (3, (TV.val (PV.bool y1038)))] 0 67, [], []⟩)
      (fun y1039 y1040 => k (.exit 0) ⟨sparse .undef [(4, (TV.val (PV.bool y1039))), (5, (TV.val (PV.int .i64 y1040)))] 0 67, [], []⟩)
  | _ => none
def rInt_L (n key : Nat) (ls : List Leaf) (R : Type) (k : Ex → St → Option R) : Option R :=
  match key with
  | 8 => rInt_L8 n ls R k
  | _ => none
def rInt_J (n key : Nat) (ls : List Leaf) (R : Type) (k : Ex → St → Option R) : Option R :=
  match key with
  | _ => none
def rInt_on : Code → Bool := fun _ => false
def rInt_Λ : Nat → Loops := patL (normBy rInt_cfg) rInt_pat rInt_L (normJ rInt_cfg) rInt_on rInt_patj rInt_J
theorem rInt_step8 (n : Nat) (s30 : ByteArray) (minus31 : Bool) (n32 : Int) (i33 : Int)  (R : Type) (k : Ex → St → Option R) :
    roundK T G0 (ctrOf rInt_Γ) (normBy rInt_cfg) (rInt_Λ n) (codeAt [1, 1, 1, 1, 1, 0, 1, 0, 0] (bodyOf Tryd.f29)) (buildSt ⟨sparse .undef [(0, (.val .str)), (4, (.val .bool)), (5, (.val (.int .i64))), (6, (.val (.int .i64)))] 0 67, [], []⟩ [.str s30, .bool minus31, .int n32, .int i33]) R k = rInt_L8 (n + 1) [.str s30, .bool minus31, .int n32, .int i33] R k := by kernel_rfl
theorem rInt_eq (n : Nat) (s1 : ByteArray) :
    funK T G0 (ctrOf rInt_Γ) (rInt_Λ n) .d true [none] (funOf Tryd.f29) [(PV.str s1)] = rInt_b n  s1 (fun a0 a1 => some (rInt_E (a0, a1))) := by kernel_rfl
theorem rInt_inv {ps : List PV} {y : Int × Bool} (h : rInt_D ps = some y) : ∃ (s1 : ByteArray), ps = [(PV.str s1)] := by
  unfold rInt_D at h
  split at h
  · exact ⟨_, rfl⟩
  · cases h
theorem rInt_loops : loopsOf (bodyOf Tryd.f29) = [codeAt [1, 1, 1, 1, 1, 0, 1, 0, 0] (bodyOf Tryd.f29)] := by kernel_rfl
theorem rInt_holds (hΓ : HoldsAll Tryd.prog G0 rInt_Γ) (hok : ∀ (s1 : ByteArray) (y : Int × Bool), sRInt s1 = some y → ∃ n, ∀ (R : Type) (k : Int → Bool → Option R), rInt_b n  s1 k = k y.1 y.2) : Holds Tryd.prog G0 29 rInt_C := by
  refine fun_pat mixed tOk (ctrOf_ok hΓ) Tryd.func29 rfl rfl rfl rfl (F := funOf Tryd.f29) (normBy_ok rInt_cfg) (pat := rInt_pat) (L := rInt_L) (normJ_ok rInt_cfg) (on := rInt_on) (patj := rInt_patj) (J := rInt_J) (fun c hc ls R k => ?_) (fun c hc p hp m ls R k r h => ?_) (fun c hc p hp m ls R k r h => ?_) (fun ps x h => ?_)
  · rw [show (funOf Tryd.f29).code = bodyOf Tryd.f29 from rfl, rInt_loops] at hc
    simp only [List.mem_cons, List.not_mem_nil, or_false] at hc
    rcases hc with rfl
    · show rInt_L8 0 ls R k = none
      unfold rInt_L8
      split
      · rfl
      · rfl
  · rw [show (funOf Tryd.f29).code = bodyOf Tryd.f29 from rfl, rInt_loops] at hc
    simp only [List.mem_cons, List.not_mem_nil, or_false] at hc
    rcases hc with rfl
    · have hp' : p = ⟨sparse .undef [(0, (.val .str)), (4, (.val .bool)), (5, (.val (.int .i64))), (6, (.val (.int .i64)))] 0 67, [], []⟩ := (Option.some.inj (hp : some _ = some p)).symm
      subst hp'
      change rInt_L8 (m + 1) ls R k = some r at h
      have h' := h
      unfold rInt_L8 at h'
      split at h'
      · exact (rInt_step8 m _ _ _ _ R k).trans h
      · cases h'
  · cases (List.mem_filter.1 hc).2
  · obtain ⟨y, hy, hx⟩ := bind_inv h
    cases hx
    obtain ⟨s1, rfl⟩ := rInt_inv hy
    obtain ⟨n, hn⟩ := hok s1 y hy
    exact ⟨n, (rInt_eq n s1).trans (hn _ _)⟩
end
end Go.Proofs.YtkeklbicmfhemaaDoorV
namespace Go.Proofs.YtkeklbicmfhemaaDoorV
open Go
theorem inI_iff (n : Int) : inI n = true ↔ (-9223372036854775808 ≤ n ∧ n < 9223372036854775808) := by simp [inI]
theorem wrapN {n : Int} (h1 : -9223372036854775808 ≤ n) (h2 : n < 9223372036854775808) : IntKind.i64.wrap n = n := wrap_i64 h1 h2
theorem within_val (n : Int) {m : Int} (hm : 0 < m) (hm' : m < 9223372036854775808) : within_d n m = some (n % m) := by
  unfold within_d within_b
  have h1 : ¬ (m < 1) := by omega
  rw [decide_eq_false h1, cond_false]
  have h0 : ¬ (m = 0) := by omega
  simp only [h0, if_false]
  have e := Int.tmod_add_mul_tdiv n m
  have hs := Int.tmod_lt_of_pos n hm
  have hs' := Int.lt_tmod_of_pos n hm
  by_cases hneg : Int.tmod n m < 0
  · rw [decide_eq_true hneg, cond_true]
    rw [wrap_i64 (by omega) (by omega)]
    congr 1
    have : n = Int.tmod n m + m + m * (Int.tdiv n m - 1) := by rw [Int.mul_sub, Int.mul_one]; omega
    calc Int.tmod n m + m = (Int.tmod n m + m) % m := (Int.emod_eq_of_lt (by omega) (by omega)).symm
      _ = n % m := by conv => rhs; rw [this, Int.add_mul_emod_self_left]
  · rw [decide_eq_false hneg, cond_false]
    congr 1
    calc Int.tmod n m = Int.tmod n m % m := (Int.emod_eq_of_lt (by omega) (by omega)).symm
      _ = n % m := by conv => rhs; rw [← e, Int.add_mul_emod_self_left]
theorem within_ok (n : Int) {m : Nat} (hm : 0 < m) (hm' : m < 9223372036854775808) : ∃ k : Nat, k < m ∧ within_d n m = some (k : Int) := by
  have h1 := Int.emod_nonneg n (b := (m : Int)) (by omega)
  have h2 := Int.emod_lt_of_pos n (b := (m : Int)) (by omega)
  exact ⟨(n % m).toNat, by omega, by rw [within_val n (by omega) (by omega)]; congr 1; omega⟩
theorem idx_iRow (pre : List Int) (v : Int) (rest : List Int) : idx (iRow (pre ++ v :: rest)) (pre.length : Int) = some [PV.int .i64 v] := by
  rw [idx_nat, iRow, List.map_append, List.map_cons, List.getElem?_append_right (by simp)]
  simp
theorem idx_bytes (pre : List UInt8) (c : UInt8) (rest : List UInt8) : idx (pre ++ c :: rest) (pre.length : Int) = some c := idx_at pre c rest
theorem u8_cast (c d : UInt8) : (((c.toNat : Int) == (d.toNat : Int)) : Bool) = (c == d) := by
  rw [Bool.eq_iff_iff, beq_iff_eq, beq_iff_eq]
  constructor
  · intro h; exact UInt8.toNat_inj.1 (by omega)
  · rintro rfl; rfl
theorem beq_list (a b : List UInt8) : (a == b) = decide (a = b) := by rw [Bool.eq_iff_iff]; simp
end Go.Proofs.YtkeklbicmfhemaaDoorV
namespace Go.Proofs.YtkeklbicmfhemaaDoorV
open Go
theorem take_pre (l p : List UInt8) : (l.take p.length == p) = p.isPrefixOf l := by
  rw [Bool.eq_iff_iff, beq_iff_eq, List.isPrefixOf_iff_prefix, List.prefix_iff_eq_take]
  exact eq_comm
theorem hasPre_ok (l p : List UInt8) : hasPre_d (text l) (text p) = some (p.isPrefixOf l) := by
  unfold hasPre_d hasPre_b
  simp only [text_size, text_extract, text_toList, Int.toNat_natCast, Int.toNat_zero, List.drop_zero, take_pre]
  by_cases h : p.length ≤ l.length
  · rw [decide_eq_true (by omega), cond_true, if_pos (by omega)]
  · rw [decide_eq_false (by omega), cond_false]
    congr 1
    cases hp : p.isPrefixOf l with
    | false => rfl
    | true =>
      rw [List.isPrefixOf_iff_prefix] at hp
      exact absurd hp.length_le h
theorem trimPre_ok (l p : List UInt8) : trimPre_d (text l) (text p) = some (text (if p.isPrefixOf l = true then l.drop p.length else l)) := by
  unfold trimPre_d trimPre_b trimPre0_d trimPre0_b
  rw [hasPre_ok]
  simp only [Option.bind_some]
  cases hp : p.isPrefixOf l with
  | false => simp
  | true =>
    have : p.length ≤ l.length := (List.isPrefixOf_iff_prefix.1 hp).length_le
    simp only [cond_true, if_true, text_size, text_extract, Int.toNat_natCast]
    rw [if_pos (by omega)]
    simp
theorem dropWhile_nil_iff {p : UInt8 → Bool} : ∀ {l : List UInt8}, l.dropWhile p = [] ↔ ∀ c ∈ l, p c = true
  | [] => by simp
  | b :: l => by
    rw [List.dropWhile_cons]
    split
    · rename_i h; rw [dropWhile_nil_iff]; simp [h]
    · rename_i h; simp [h]
theorem trimS_nil {l cs : List UInt8} : Lib.trimS l cs = [] ↔ ∀ c ∈ l, cs.contains c = true := by
  unfold Lib.trimS Lib.trimLeftS Lib.trimRightS
  rw [dropWhile_nil_iff]
  constructor
  · intro h
    cases hr : l.reverse.dropWhile (cs.contains ·) with
    | nil =>
      rw [dropWhile_nil_iff] at hr
      exact fun c hc => hr c (by simpa using hc)
    | cons b r =>
      exfalso
      have h1 := h b (by rw [hr]; simp)
      have h2 := List.head?_dropWhile_not (p := fun c => cs.contains c) (l := l.reverse)
      rw [hr] at h2
      simp only [List.head?_cons] at h2
      rw [h1] at h2
      cases h2
  · intro h c hc
    have : l.reverse.dropWhile (cs.contains ·) = [] := dropWhile_nil_iff.2 fun c hc => h c (by simpa using hc)
    rw [this] at hc
    cases hc
theorem dig_set : ([48, 49, 50, 51, 52, 53, 54, 55, 56, 57] : List UInt8).contains = isDig := by
  funext c
  have : ∀ n : Fin 256, ([48, 49, 50, 51, 52, 53, 54, 55, 56, 57] : List UInt8).contains (UInt8.ofNat n.val) = isDig (UInt8.ofNat n.val) := by decide +kernel
  have h := this ⟨c.toNat, UInt8.toNat_lt c⟩
  simpa using h
theorem sItoa_in {n : Int} (h : inI n = true) : sItoa n = some (text (dig n)) := if_pos h
theorem digits_ok {n : Int} (h : inI n = true) : digits_d n = some (text (dig n)) := by
  unfold digits_d digits_b
  rw [sItoa_in h]
  rfl
theorem sInt_ok {l : List UInt8} (hl : l.length ≤ lim) : sInt_d (text l) = some (intV l) := by
  have core : ∀ (d : List UInt8) (v : Int), d.length ≤ lim → (1 ≤ d.length → d.length ≤ 18 → d.all isDig = true → Lib.atoiAll l = .ok v ∧ small18 v = true) → (∀ n, intOf l = some n → 1 ≤ d.length ∧ d.length ≤ 18 ∧ d.all isDig = true ∧ n = v) →
      (cond (decide (((text d).size : Int) < (1 : Int))) (some ((0, false) : Int × Bool)) (
        cond (decide (((text d).size : Int) > (18 : Int))) (some (0, false)) (
          Option.bind (sTrim (text d) (text [48, 49, 50, 51, 52, 53, 54, 55, 56, 57])) fun y3 =>
          cond (!(ByteArray.toList y3 == ByteArray.toList (text []))) (some (0, false)) (
            Option.bind (sAtoi (text l)) fun y4 =>
            if (PV.one y4.2) = true then
              Option.bind (PV.asNil y4.2) fun b5 =>
              cond (!b5) (some (0, false)) (
                Option.bind (digits_d y4.1) fun y6 =>
                cond (!(ByteArray.toList y6 == ByteArray.toList (text l))) (some (0, false)) (some (y4.1, true)))
            else none)))) = some (intV l) := by
    intro d v hd h1 h2
    have no : (¬ (1 ≤ d.length ∧ d.length ≤ 18 ∧ d.all isDig = true)) → some ((0, false) : Int × Bool) = some (intV l) := by
      intro h
      unfold intV
      cases hi : intOf l with
      | none => rfl
      | some n => obtain ⟨a, b, c, _⟩ := h2 n hi; exact absurd ⟨a, b, c⟩ h
    rw [text_size]
    by_cases c1 : d.length < 1
    · rw [decide_eq_true (by omega), cond_true]; exact no fun h => by omega
    rw [decide_eq_false (by omega), cond_false]
    by_cases c2 : 18 < d.length
    · rw [decide_eq_true (by omega), cond_true]; exact no fun h => by omega
    rw [decide_eq_false (by omega), cond_false]
    have ht : sTrim (text d) (text [48, 49, 50, 51, 52, 53, 54, 55, 56, 57]) = some (text (Lib.trimS d [48, 49, 50, 51, 52, 53, 54, 55, 56, 57])) := by
      unfold sTrim
      rw [if_pos ⟨by rw [text_size]; exact hd, by rw [text_size]; decide, by rw [text_data]; decide⟩, text_data, text_data]
    rw [ht, Option.bind_some, text_toList, text_toList, beq_list]
    by_cases c3 : d.all isDig = true
    · have e : Lib.trimS d [48, 49, 50, 51, 52, 53, 54, 55, 56, 57] = [] := trimS_nil.2 fun c hc => by rw [dig_set]; exact List.all_eq_true.1 c3 c hc
      rw [decide_eq_true e]
      obtain ⟨h3, h4⟩ := h1 (by omega) (by omega) c3
      have ha : sAtoi (text l) = some (v, .nilif) := by
        unfold sAtoi
        rw [if_pos (by rw [text_size]; exact hl), text_data, h3]
      rw [ha]
      simp only [Option.bind_some, Bool.not_true, cond_false, PV.one, PV.asNil, if_true]
      rw [digits_ok (small18_inI h4), Option.bind_some, text_toList, text_toList, beq_list]
      unfold intV
      by_cases c4 : dig v = l
      · rw [decide_eq_true c4]
        have := intOf_dig (small18_inI h4)
        rw [c4, h4, if_pos rfl] at this
        rw [this]
        rfl
      · rw [decide_eq_false c4]
        cases hi : intOf l with
        | none => rfl
        | some n =>
          obtain ⟨_, _, _, rfl⟩ := h2 n hi
          exact absurd (dig_intOf hi).1 c4
    · have e : Lib.trimS d [48, 49, 50, 51, 52, 53, 54, 55, 56, 57] ≠ [] := fun e => c3 (List.all_eq_true.2 fun c hc => by rw [← dig_set]; exact trimS_nil.1 e c hc)
      rw [decide_eq_false e]
      exact no fun h => c3 h.2.2
  unfold sInt_d sInt_b
  rw [show (ByteArray.mk #[45]) = text [45] from rfl, show (ByteArray.mk #[48, 49, 50, 51, 52, 53, 54, 55, 56, 57]) = text [48, 49, 50, 51, 52, 53, 54, 55, 56, 57] from rfl, mk_nil, trimPre_ok, Option.bind_some]
  by_cases hm : ∃ d, l = 45 :: d
  · obtain ⟨d, rfl⟩ := hm
    rw [show ([45] : List UInt8).isPrefixOf (45 :: d) = true by simp, if_pos rfl]
    refine core d (-(valOf d : Int)) (by simp at hl; omega) (fun h1 h2 h3 => ?_) fun n hn => ?_
    · refine ⟨(atoi_digits (by intro e; rw [e] at h1; simp at h1) h2 h3).2, ?_⟩
      have := valOf_lt d h3
      have h6 : 10 ^ d.length ≤ 10 ^ 18 := Nat.pow_le_pow_right (by omega) h2
      simp only [small18, decide_eq_true_eq]
      omega
    · rw [intOf_minus] at hn
      split at hn
      · rename_i h; cases hn; exact ⟨h.1, h.2.1, h.2.2.1, rfl⟩
      · cases hn
  · have hh : l.head? ≠ some 45 := by
      cases l with
      | nil => simp
      | cons b d => simp only [List.head?_cons, ne_eq, Option.some.injEq]; rintro rfl; exact hm ⟨d, rfl⟩
    have hp : ([45] : List UInt8).isPrefixOf l = false := by
      cases l with
      | nil => rfl
      | cons b d =>
        simp only [List.head?_cons, ne_eq, Option.some.injEq] at hh
        have : ((45 : UInt8) == b) = false := by simpa using fun e : (45 : UInt8) = b => hh e.symm
        simp only [List.isPrefixOf, this, Bool.false_and]
    rw [hp, if_neg (by simp)]
    refine core l (valOf l : Int) hl (fun h1 h2 h3 => ?_) fun n hn => ?_
    · refine ⟨(atoi_digits (by intro e; rw [e] at h1; simp at h1) h2 h3).1, ?_⟩
      have := valOf_lt l h3
      have h6 : 10 ^ l.length ≤ 10 ^ 18 := Nat.pow_le_pow_right (by omega) h2
      simp only [small18, decide_eq_true_eq]
      omega
    · rw [intOf_plain hh] at hn
      split at hn
      · rename_i h; cases hn; exact ⟨h.1, h.2.1, h.2.2.1, rfl⟩
      · cases hn
theorem digit_text : ∀ d : Fin 10, ((([48, 49, 50, 51, 52, 53, 54, 55, 56, 57] : List UInt8).take (d.val + 1)).drop d.val) = [UInt8.ofNat (48 + d.val)] := by decide +kernel
theorem digit_piece {d : Nat} (h : d < 10) : ByteArray.extract (ByteArray.mk #[48, 49, 50, 51, 52, 53, 54, 55, 56, 57]) d (d + 1) = text [UInt8.ofNat (48 + d)] := by
  rw [show (ByteArray.mk #[48, 49, 50, 51, 52, 53, 54, 55, 56, 57]) = text [48, 49, 50, 51, 52, 53, 54, 55, 56, 57] from rfl, text_extract, digit_text ⟨d, h⟩]
theorem rDig_step {R : Type} {n4 : Int} (k0 : Int → ByteArray → Option R) {m : Int} {acc : List UInt8} (n : Nat) (hm : inI m = true) (ha : acc.length ≤ 100) (hz : ¬ (m = 0 ∧ acc ≠ [])) :
    rDigits_l3 (n + 1) n4 (text acc) m k0 = rDigits_l3 n n4 (text (UInt8.ofNat (48 + m.natAbs % 10) :: acc)) (Int.tdiv m 10) k0 := by
  have hm' := (inI_iff m).1 hm
  have e1 := Int.tmod_add_mul_tdiv m 10
  have e2 := Int.natAbs_tmod m 10
  have e3 := Int.natAbs_tdiv m 10
  have hs : (Int.tdiv m 10).natAbs ≤ m.natAbs := by rw [e3]; exact Nat.div_le_self _ _
  simp only [show (10 : Int).natAbs = 10 from rfl] at e2 e3
  have hd : m.natAbs % 10 < 10 := Nat.mod_lt _ (by omega)
  have hw : IntKind.i64.wrap (Int.tdiv m 10) = Int.tdiv m 10 := wrapN (by omega) (by omega)
  have body : (cond (decide ((Int.tmod m (10 : Int)) < (0 : Int))) (
        if (0 : Int) ≤ (IntKind.i64.wrap (0 - (Int.tmod m (10 : Int)))) ∧ (IntKind.i64.wrap (0 - (Int.tmod m (10 : Int)))) ≤ (IntKind.i64.wrap ((IntKind.i64.wrap (0 - (Int.tmod m (10 : Int)))) + (1 : Int))) ∧ (IntKind.i64.wrap ((IntKind.i64.wrap (0 - (Int.tmod m (10 : Int)))) + (1 : Int))) ≤ (10 : Int) then
          if ((ByteArray.extract (ByteArray.mk #[48, 49, 50, 51, 52, 53, 54, 55, 56, 57]) (Int.toNat (IntKind.i64.wrap (0 - (Int.tmod m (10 : Int))))) (Int.toNat (IntKind.i64.wrap ((IntKind.i64.wrap (0 - (Int.tmod m (10 : Int)))) + (1 : Int)))))).size + ((text acc)).size ≤ 140737488355328 then
            rDigits_l3 n n4 ((ByteArray.extract (ByteArray.mk #[48, 49, 50, 51, 52, 53, 54, 55, 56, 57]) (Int.toNat (IntKind.i64.wrap (0 - (Int.tmod m (10 : Int))))) (Int.toNat (IntKind.i64.wrap ((IntKind.i64.wrap (0 - (Int.tmod m (10 : Int)))) + (1 : Int))))) ++ (text acc)) (IntKind.i64.wrap (Int.tdiv m (10 : Int))) k0
          else none
        else none) (
        if (0 : Int) ≤ (Int.tmod m (10 : Int)) ∧ (Int.tmod m (10 : Int)) ≤ (IntKind.i64.wrap ((Int.tmod m (10 : Int)) + (1 : Int))) ∧ (IntKind.i64.wrap ((Int.tmod m (10 : Int)) + (1 : Int))) ≤ (10 : Int) then
          if ((ByteArray.extract (ByteArray.mk #[48, 49, 50, 51, 52, 53, 54, 55, 56, 57]) (Int.toNat (Int.tmod m (10 : Int))) (Int.toNat (IntKind.i64.wrap ((Int.tmod m (10 : Int)) + (1 : Int)))))).size + ((text acc)).size ≤ 140737488355328 then
            rDigits_l3 n n4 ((ByteArray.extract (ByteArray.mk #[48, 49, 50, 51, 52, 53, 54, 55, 56, 57]) (Int.toNat (Int.tmod m (10 : Int))) (Int.toNat (IntKind.i64.wrap ((Int.tmod m (10 : Int)) + (1 : Int))))) ++ (text acc)) (IntKind.i64.wrap (Int.tdiv m (10 : Int))) k0
          else none
        else none)) = rDigits_l3 n n4 (text (UInt8.ofNat (48 + m.natAbs % 10) :: acc)) (Int.tdiv m 10) k0 := by
    have fin : ∀ z : Int, z = ((m.natAbs % 10 : Nat) : Int) → (if (0 : Int) ≤ z ∧ z ≤ (IntKind.i64.wrap (z + (1 : Int))) ∧ (IntKind.i64.wrap (z + (1 : Int))) ≤ (10 : Int) then
          if ((ByteArray.extract (ByteArray.mk #[48, 49, 50, 51, 52, 53, 54, 55, 56, 57]) (Int.toNat z) (Int.toNat (IntKind.i64.wrap (z + (1 : Int)))))).size + ((text acc)).size ≤ 140737488355328 then
            rDigits_l3 n n4 ((ByteArray.extract (ByteArray.mk #[48, 49, 50, 51, 52, 53, 54, 55, 56, 57]) (Int.toNat z) (Int.toNat (IntKind.i64.wrap (z + (1 : Int))))) ++ (text acc)) (IntKind.i64.wrap (Int.tdiv m (10 : Int))) k0
          else none
        else none) = rDigits_l3 n n4 (text (UInt8.ofNat (48 + m.natAbs % 10) :: acc)) (Int.tdiv m 10) k0 := by
      intro z hz
      have hz1 : IntKind.i64.wrap (z + 1) = z + 1 := wrapN (by omega) (by omega)
      rw [hz1, if_pos (by omega), show Int.toNat z = m.natAbs % 10 by omega, show Int.toNat (z + 1) = m.natAbs % 10 + 1 by omega, digit_piece hd, text_append, text_size, text_size, if_pos (by simp; omega), hw]
      rfl
    by_cases hneg : Int.tmod m 10 < 0
    · rw [decide_eq_true hneg, cond_true]
      exact fin _ (by rw [wrapN (by omega) (by omega)]; omega)
    · rw [decide_eq_false hneg, cond_false]
      exact fin _ (by omega)
  conv => lhs; unfold rDigits_l3
  by_cases h0 : m = 0
  · have hacc : acc = [] := Classical.byContradiction fun h => hz ⟨h0, h⟩
    rw [show (m != 0) = false by simp [h0], cond_false, mk_nil, text_toList, text_toList, show (acc == []) = true by rw [hacc]; rfl, cond_true]
    exact body
  · rw [show (m != 0) = true by simp [h0], cond_true]
    exact body
theorem rDig_rounds {R : Type} {n4 : Int} (k0 : Int → ByteArray → Option R) : ∀ (f : Nat) (m : Int) (acc : List UInt8) (n : Nat), inI m = true → m.natAbs < 10 ^ f → acc.length + f ≤ 40 → f + 1 < n →
    rDigits_l3 n n4 (text acc) m k0 = k0 n4 (text ((if m = 0 ∧ acc ≠ [] then [] else Lib.decDigits m.natAbs) ++ acc)) := by
  have stop : ∀ (acc : List UInt8) (n : Nat), acc ≠ [] → 0 < n → rDigits_l3 n n4 (text acc) 0 k0 = k0 n4 (text acc) := by
    intro acc n ha hn
    obtain ⟨m, rfl⟩ : ∃ m, n = m + 1 := ⟨n - 1, by omega⟩
    unfold rDigits_l3
    rw [show ((0 : Int) != 0) = false from rfl, cond_false, mk_nil, text_toList, text_toList, show (acc == []) = false by cases acc with | nil => exact absurd rfl ha | cons => rfl, cond_false]
  intro f
  induction f with
  | zero =>
    intro m acc n hm hf ha hn
    have h0 : m = 0 := by omega
    subst h0
    by_cases hacc : acc = []
    · subst hacc
      obtain ⟨k, rfl⟩ : ∃ k, n = k + 1 := ⟨n - 1, by omega⟩
      rw [rDig_step k0 k hm (by simp) (by simp), show Int.tdiv 0 10 = 0 from rfl, stop _ k (by simp) (by omega), if_neg (by simp), Lib.decDigits]
      rfl
    · rw [stop acc n hacc (by omega), if_pos ⟨rfl, hacc⟩]
      rfl
  | succ f ih =>
    intro m acc n hm hf ha hn
    by_cases hz : m = 0 ∧ acc ≠ []
    · obtain ⟨rfl, hacc⟩ := hz
      rw [stop acc n hacc (by omega), if_pos ⟨rfl, hacc⟩]
      rfl
    · obtain ⟨k, rfl⟩ : ∃ k, n = k + 1 := ⟨n - 1, by omega⟩
      have e3 : (Int.tdiv m 10).natAbs = m.natAbs / 10 := Int.natAbs_tdiv m 10
      have hm' := (inI_iff m).1 hm
      have hdv : m.natAbs / 10 ≤ m.natAbs := Nat.div_le_self _ _
      have hin : inI (Int.tdiv m 10) = true := by
        by_cases hmin : m = -9223372036854775808
        · subst hmin; rfl
        · rw [inI_iff]; omega
      rw [rDig_step k0 k hm (by omega) hz, ih (Int.tdiv m 10) _ k hin (by rw [e3]; rw [Nat.pow_succ] at hf; omega) (by simp; omega) (by omega), if_neg hz, e3]
      congr 2
      rw [Lib.decDigits.eq_1 m.natAbs]
      by_cases h10 : m.natAbs < 10
      · have : Int.tdiv m 10 = 0 := by omega
        rw [if_pos ⟨this, by simp⟩, dif_pos h10, Nat.mod_eq_of_lt h10]
        rfl
      · rw [if_neg (fun h => by have := h.1; omega), dif_neg h10]
        simp
theorem rDigits_ok : ∀ (n1 : Int) (y : ByteArray), sRDigits n1 = some y → ∃ n, ∀ (R : Type) (k : ByteArray → Option R), rDigits_b n n1 k = k y := by
  intro n1 y h
  unfold sRDigits sItoa at h
  split at h
  case isFalse => cases h
  rename_i hn
  cases h
  have hn' := (inI_iff n1).1 hn
  refine ⟨30, fun R k => ?_⟩
  unfold rDigits_b
  rw [mk_nil, rDig_rounds _ 20 n1 [] 30 hn (by omega) (by simp) (by omega), List.append_nil]
  unfold dig
  rw [decL_dec hn]
  have hz : ¬ (n1 = 0 ∧ ([] : List UInt8) ≠ []) := fun h => h.2 rfl
  rw [if_neg hz]
  by_cases h0 : n1 < 0
  · have hl : (Lib.decDigits n1.natAbs).length ≤ 20 := by rw [Lib.decDigits_length]; exact (nDig_le (by omega)).2 (by omega)
    rw [decide_eq_true h0, cond_true, if_pos h0, show (ByteArray.mk #[45]) = text [45] from rfl, text_append, text_size, text_size, if_pos (by simp; omega)]
    rfl
  · rw [decide_eq_false h0, cond_false, if_neg h0]
theorem rInt_rounds {R : Type} {d : List UInt8} (hd : d.length ≤ 18) (mi : Bool) (k0 : Int → Bool → Option R) (k1 : Bool → Int → Option R) : ∀ (rest pre : List UInt8) (n : Nat), d = pre ++ rest → pre.all isDig = true → rest.length < n →
    rInt_l8 n (text d) mi (valOf pre : Int) (pre.length : Int) k0 k1 = if rest.all isDig = true then k1 mi (valOf d : Int) else k0 0 false
  | [], pre, n, hw, hp, hn => by
    obtain ⟨m, rfl⟩ : ∃ m, n = m + 1 := ⟨n - 1, by omega⟩
    simp only [List.append_nil] at hw
    subst hw
    unfold rInt_l8
    rw [text_size, decide_eq_false (by omega), cond_false]
    rfl
  | c :: rest, pre, n, hw, hp, hn => by
    obtain ⟨m, rfl⟩ : ∃ m, n = m + 1 := ⟨n - 1, by omega⟩
    have hlen : d.length = pre.length + (rest.length + 1) := by rw [hw]; simp
    have hidx : idx d (pre.length : Int) = some c := by rw [hw]; exact idx_bytes pre c rest
    have hc := UInt8.toNat_lt c
    unfold rInt_l8
    rw [text_size, decide_eq_true (by omega), cond_true, text_data, hidx]
    simp only [Option.bind_some]
    by_cases h : isDig c = true
    · have h1 := isDig_iff.1 h
      have hv := valOf_lt pre hp
      have h6 : 10 ^ pre.length ≤ 10 ^ 17 := Nat.pow_le_pow_right (by omega) (by omega)
      rw [decide_eq_false (by omega), cond_false, decide_eq_false (by omega), cond_false]
      have e0 : IntKind.u8.wrap ((c.toNat : Int) - 48) = (c.toNat : Int) - 48 := by rw [wrap_u8]; omega
      rw [e0, wrapN (n := (c.toNat : Int) - 48) (by omega) (by omega), wrapN (n := 10 * (valOf pre : Int)) (by omega) (by omega), wrapN (by omega) (by omega), wrapN (by omega) (by omega)]
      have e1 : (10 * (valOf pre : Int) + ((c.toNat : Int) - 48)) = (valOf (pre ++ [c]) : Int) := by rw [valOf_snoc]; omega
      have e2 : ((pre.length : Int) + 1) = ((pre ++ [c]).length : Int) := by simp
      rw [e1, e2, rInt_rounds hd mi k0 k1 rest (pre ++ [c]) m (by rw [hw]; simp) (by simp [hp, h]) (by simp at hn; omega)]
      simp only [List.all_cons, h, Bool.true_and]
    · have h1 : ¬ (48 ≤ c.toNat ∧ c.toNat ≤ 57) := fun e => h (isDig_iff.2 e)
      rw [if_neg (by simp [h])]
      by_cases h2 : (c.toNat : Int) < 48
      · rw [decide_eq_true h2, cond_true]
      · rw [decide_eq_false h2, cond_false, decide_eq_true (by omega), cond_true]
def rIntTail {R : Type} (n : Nat) (d : ByteArray) (mi : Bool) (k : Int → Bool → Option R) : Option R :=
  cond (decide ((d.size : Int) < (1 : Int))) (k 0 false) (cond (decide ((d.size : Int) > (18 : Int))) (k 0 false) (
    Option.bind (idx d.data.toList (0 : Int)) fun u =>
    cond ((u.toNat : Int) == (48 : Int)) (cond (decide ((d.size : Int) > (1 : Int))) (k 0 false) (cond mi (k 0 false) (
      rInt_l8 n d mi 0 0 k fun m u => cond m (k (IntKind.i64.wrap (0 - u)) true) (k u true)))) (
      rInt_l8 n d mi 0 0 k fun m u => cond m (k (IntKind.i64.wrap (0 - u)) true) (k u true))))
theorem rInt_cut {R : Type} (n : Nat) (s : ByteArray) (k : Int → Bool → Option R) : rInt_b n s k =
    cond (decide ((s.size : Int) > (0 : Int))) (Option.bind (idx s.data.toList (0 : Int)) fun u =>
      cond ((u.toNat : Int) == (45 : Int)) (if (0 : Int) ≤ (1 : Int) ∧ (1 : Int) ≤ (s.size : Int) ∧ (s.size : Int) ≤ (s.size : Int) then rIntTail n (ByteArray.extract s 1 (Int.toNat (s.size : Int))) ((u.toNat : Int) == (45 : Int)) k else none)
        (rIntTail n s ((u.toNat : Int) == (45 : Int)) k)) (rIntTail n s false k) := rfl
theorem rIntTail_ok {R : Type} (n : Nat) (d : List UInt8) (mi : Bool) (k : Int → Bool → Option R) (hn : d.length < n) :
    rIntTail n (text d) mi k = if 1 ≤ d.length ∧ d.length ≤ 18 ∧ d.all isDig = true ∧ (d.head? ≠ some 48 ∨ (mi = false ∧ d.length = 1)) then k (if mi = true then -(valOf d : Int) else (valOf d : Int)) true else k 0 false := by
  unfold rIntTail
  rw [text_size, text_data]
  by_cases h1 : 1 ≤ d.length
  case neg => rw [decide_eq_true (by omega), cond_true, if_neg (fun h => h1 h.1)]
  by_cases h2 : d.length ≤ 18
  case neg => rw [decide_eq_false (by omega), cond_false, decide_eq_true (by omega), cond_true, if_neg (fun h => h2 h.2.1)]
  rw [decide_eq_false (by omega), cond_false, decide_eq_false (by omega), cond_false]
  cases d with
  | nil => simp at h1
  | cons c d =>
    rw [show idx (c :: d) (0 : Int) = some c from rfl, Option.bind_some]
    have hc : (((c.toNat : Int) == (48 : Int)) : Bool) = (c == 48) := u8_cast c 48
    rw [hc]
    have loop : rInt_l8 n (text (c :: d)) mi 0 0 k (fun m u => cond m (k (IntKind.i64.wrap (0 - u)) true) (k u true)) = if (c :: d).all isDig = true then k (if mi = true then -(valOf (c :: d) : Int) else (valOf (c :: d) : Int)) true else k 0 false := by
      refine (rInt_rounds h2 mi k _ (c :: d) [] n rfl rfl hn).trans ?_
      by_cases ha : (c :: d).all isDig = true
      · rw [if_pos ha, if_pos ha]
        have hv := valOf_lt (c :: d) ha
        have h6 : 10 ^ (c :: d).length ≤ 10 ^ 18 := Nat.pow_le_pow_right (by omega) h2
        rw [wrapN (by omega) (by omega), Int.zero_sub]
        cases mi <;> rfl
      · rw [if_neg ha, if_neg ha]
    by_cases h48 : c = 48
    · subst h48
      rw [beq_self_eq_true, cond_true]
      by_cases h3 : (48 :: d).length = 1
      · rw [decide_eq_false (by omega), cond_false]
        cases mi with
        | true => rw [cond_true, if_neg (by simp)]
        | false =>
          rw [cond_false, loop]
          by_cases ha : (48 :: d).all isDig = true
          · rw [if_pos ha]; exact (if_pos ⟨h1, h2, ha, .inr ⟨rfl, h3⟩⟩).symm
          · rw [if_neg ha, if_neg (fun h => ha h.2.2.1)]
      · rw [decide_eq_true (by omega), cond_true, if_neg]
        rintro ⟨_, _, _, h | h⟩
        · exact h rfl
        · exact h3 h.2
    · rw [show (c == 48) = false by simpa using h48, cond_false, loop]
      by_cases ha : (c :: d).all isDig = true
      · rw [if_pos ha]; exact (if_pos ⟨h1, h2, ha, .inl (by simpa using h48)⟩).symm
      · rw [if_neg ha, if_neg (fun h => ha h.2.2.1)]
theorem rInt_ok : ∀ (s1 : ByteArray) (y : Int × Bool), sRInt s1 = some y → ∃ n, ∀ (R : Type) (k : Int → Bool → Option R), rInt_b n s1 k = k y.1 y.2 := by
  intro s y h
  unfold sRInt at h
  split at h
  case isFalse => cases h
  cases h
  refine ⟨s.size + 1, fun R k => ?_⟩
  obtain ⟨l, rfl⟩ : ∃ l, s = text l := ⟨_, (text_of s).symm⟩
  rw [rInt_cut, text_data, text_size]
  cases l with
  | nil =>
    rw [decide_eq_false (by simp), cond_false, rIntTail_ok _ _ _ _ (by simp), if_neg (by simp)]
    rfl
  | cons c d =>
    rw [decide_eq_true (by simp), cond_true, show idx (c :: d) (0 : Int) = some c from rfl, Option.bind_some]
    have hc : (((c.toNat : Int) == (45 : Int)) : Bool) = (c == 45) := u8_cast c 45
    rw [hc]
    by_cases h45 : c = 45
    · subst h45
      rw [beq_self_eq_true, cond_true, if_pos (by simp only [List.length_cons]; omega), text_extract, Int.toNat_natCast, List.take_of_length_le (Nat.le_refl _), List.drop_one, List.tail_cons, rIntTail_ok _ _ _ _ (by simp only [List.length_cons]; omega)]
      unfold intV
      rw [intOf_minus]
      by_cases hh : 1 ≤ d.length ∧ d.length ≤ 18 ∧ d.all isDig = true ∧ d.head? ≠ some 48
      · rw [if_pos hh, if_pos ⟨hh.1, hh.2.1, hh.2.2.1, .inl hh.2.2.2⟩]; rfl
      · rw [if_neg hh, if_neg]
        rintro ⟨a, b, e, h | h⟩
        · exact hh ⟨a, b, e, h⟩
        · exact absurd h.1 (by simp)
    · rw [show (c == 45) = false by simpa using h45, cond_false, rIntTail_ok _ _ _ _ (by simp)]
      unfold intV
      rw [intOf_plain (by simpa using h45)]
      by_cases hh : 1 ≤ (c :: d).length ∧ (c :: d).length ≤ 18 ∧ (c :: d).all isDig = true ∧ ((c :: d).head? ≠ some 48 ∨ (c :: d).length = 1)
      · rw [if_pos hh, if_pos ⟨hh.1, hh.2.1, hh.2.2.1, hh.2.2.2.imp id fun h => ⟨rfl, h⟩⟩]; rfl
      · rw [if_neg hh, if_neg]
        rintro ⟨a, b, e, h⟩
        exact hh ⟨a, b, e, h.imp id And.right⟩
end Go.Proofs.YtkeklbicmfhemaaDoorV
namespace Go.Proofs.YtkeklbicmfhemaaDoorV
open Go
set_option maxRecDepth 20000
set_option linter.unusedSimpArgs false
theorem intV_bad {l : List UInt8} {c : UInt8} (hc : c ∈ l) (h1 : isDig c = false) (h2 : c ≠ 45) : intV l = (0, false) := by
  unfold intV
  cases h : intOf l with
  | none => rfl
  | some n =>
    exfalso
    obtain ⟨e, hn⟩ := dig_intOf h
    rcases dig_chars (small18_inI hn) c (e ▸ hc) with h' | h'
    · rw [h1] at h'; cases h'
    · exact h2 h'
theorem intV_dig {n : Int} (h : inI n = true) : intV (dig n) = if small18 n = true then (n, true) else (0, false) := by
  unfold intV
  rw [intOf_dig h]
  cases small18 n <;> rfl
end Go.Proofs.YtkeklbicmfhemaaDoorV
namespace Go.Proofs.YtkeklbicmfhemaaDoorV
open Go
set_option maxRecDepth 100000
theorem within_all : Holds Tryd.prog G0 16 within_C := within_holds trivial
theorem digits_all : Holds Tryd.prog G0 14 digits_C := digits_holds (by simp only [digits_Γ, HoldsAll, CalOk]; exact ⟨itoaS_all, trivial⟩)
theorem sInt_all : Holds Tryd.prog G0 17 sInt_C := sInt_holds (by simp only [sInt_Γ, HoldsAll, CalOk]; exact ⟨trimPre_all, trimS_all, atoiS_all, digits_all, trivial⟩)
theorem rDigits_all : Holds Tryd.prog G0 28 rDigits_C := rDigits_holds trivial rDigits_ok
theorem rInt_all : Holds Tryd.prog G0 29 rInt_C := rInt_holds trivial rInt_ok
end Go.Proofs.YtkeklbicmfhemaaDoorV
namespace Go.Proofs.YtkeklbicmfhemaaDoorV
open Go
abbrev Act := Int × Int × ByteArray
def aRow (l : List Act) : List (List PV) := l.map fun a => [.int .i64 a.1, .int .i64 a.2.1, .str a.2.2]
def unA1 : List PV → Option Act
  | [.int .i64 a, .int .i64 b, .str s] => some (a, b, s)
  | _ => none
def unA : List (List PV) → Option (List Act)
  | [] => some []
  | e :: es => (unA1 e).bind fun a => (unA es).bind fun l => some (a :: l)
def kindWords : List (List UInt8) := [[111, 112, 101, 110], [99, 108, 111, 115, 101], [115, 97, 121], [98, 121, 116, 101, 115], [112, 105, 99, 107], [114, 117, 110]]
def kindFrom : Nat → List (List UInt8) → List UInt8 → Option Nat
  | _, [], _ => none
  | j, x :: xs, w => if x = w then some j else kindFrom (j + 1) xs w
def textK (k : Int) : Bool := k == 3 || k == 4
def actOf (k : Nat) (r : List UInt8) : Act × Bool :=
  (((k : Int) + 1, (intV (cutAt 32 r).1).1, text (cutAt 32 r).2.1), (intV (cutAt 32 r).1).2 && (decide (0 ≤ (intV (cutAt 32 r).1).1) && (decide ((intV (cutAt 32 r).1).1 ≤ 9999) && ((cutAt 32 r).2.2 == textK ((k : Int) + 1)))))
def actV (l : List UInt8) : Act × Bool :=
  match (if (cutAt 32 l).2.2 = true then kindFrom 0 kindWords (cutAt 32 l).1 else none) with
  | none => ((0, 0, text []), false)
  | some k => actOf k (cutAt 32 l).2.1
def sScAct (s : ByteArray) : Option (Int × Int × ByteArray × Bool) := if s.size ≤ lim then some ((actV s.data.toList).1.1, (actV s.data.toList).1.2.1, (actV s.data.toList).1.2.2, (actV s.data.toList).2) else none
def parseF : Nat → List UInt8 → List Act → Option (List Act)
  | 0, _, _ => none
  | n + 1, l, acc => if l = [] then some acc else if (cutAt 10 l).2.2 = true ∧ (actV (cutAt 10 l).1).2 = true then parseF n (cutAt 10 l).2.1 (acc ++ [(actV (cutAt 10 l).1).1]) else none
def parseV (l : List UInt8) : Option (List Act) := parseF (l.length + 1) l []
def parseR (l : List UInt8) : List (List PV) × Int := match parseV l with | some a => (aRow a, 0) | none => ([], 2)
def sScParse (s : ByteArray) : Option (List (List PV) × Int) := if s.size ≤ lim then some (parseR s.data.toList) else none
def lineV (a : Act) : List UInt8 := if 1 ≤ a.1 ∧ a.1 ≤ 6 then (kindWords.getD (a.1 - 1).toNat []) ++ 32 :: dig a.2.1 ++ (if textK a.1 = true then 32 :: a.2.2.data.toList else []) else []
def sScLine (a1 a2 : Int) (a3 : ByteArray) : Option ByteArray := if inI a2 = true ∧ a3.size ≤ 2 * mega then some (text (lineV (a1, a2, a3))) else none
def goodA (a : Act) : Bool := (actV (lineV a)).2 && (decide ((actV (lineV a)).1 = a) && !(lineV a).contains 10)
def printF : List Act → List UInt8 → Option (List UInt8)
  | [], out => some out
  | a :: r, out => if goodA a = true then printF r (out ++ lineV a ++ [10]) else none
def printR (l : List Act) : ByteArray × Int := match printF l [] with | some o => (text o, 0) | none => (text [], 1)
def okA (a : Act) : Bool := inI a.1 && (inI a.2.1 && decide (a.2.2.size ≤ 2 * mega))
def sScPrint (es : List (List PV)) : Option (ByteArray × Int) := (unA es).bind fun l => if l.length ≤ 1000 ∧ l.all okA = true then some (printR l) else none
def sSameA (a b : List (List PV)) : Option Bool := (unA a).bind fun a => (unA b).bind fun b => if a.length ≤ big then some (decide (a = b)) else none
end Go.Proofs.YtkeklbicmfhemaaDoorV
namespace Go.Proofs.YtkeklbicmfhemaaDoorV
open Go
set_option maxRecDepth 100000
set_option linter.unusedVariables false
set_option linter.unusedSimpArgs false
noncomputable section
def scWords_b {R : Type} (k : List (List PV) → Option R) : Option R :=
  k [[(PV.str (ByteArray.mk #[111, 112, 101, 110]))], [(PV.str (ByteArray.mk #[99, 108, 111, 115, 101]))], [(PV.str (ByteArray.mk #[115, 97, 121]))], [(PV.str (ByteArray.mk #[98, 121, 116, 101, 115]))], [(PV.str (ByteArray.mk #[112, 105, 99, 107]))], [(PV.str (ByteArray.mk #[114, 117, 110]))]]
def scWords_E (y : (List (List PV))) : PV × List PV := ((PV.os y 1), [])
def scWords_d : Option ((List (List PV))) := scWords_b fun a0 => if (noMem (scWords_E a0).1 && noMemL (scWords_E a0).2) = true then some a0 else none
def scWords_D : List PV → Option ((List (List PV)))
  | [] => scWords_d
  | _ => none
def scWords_Γ : List (Nat × Cal) := []
def scWords_C : Ctr := ⟨[], (List (List PV)), scWords_D, scWords_E, true, .s⟩
theorem scWords_eq :
    funK T G0 (ctrOf scWords_Γ) noL .s true [] (funOf Tryd.f64) [] = scWords_b  (fun a0 => if (noMem (scWords_E a0).1 && noMemL (scWords_E a0).2) = true then some (scWords_E a0) else none) := by kernel_rfl
theorem scWords_inv {ps : List PV} {y : (List (List PV))} (h : scWords_D ps = some y) : ps = [] := by
  unfold scWords_D at h
  split at h
  · rfl
  · cases h
theorem scWords_nat {R : Type} (k : List (List PV) → Option R) : scWords_b k = Option.bind (scWords_b fun a0 => some a0) fun y => k y := by
  unfold scWords_b
  first | rfl | simp only [Option.bind_assoc, bind_cond, bind_ite, Option.bind_some, Option.bind_none]
theorem scWords_holds (hΓ : HoldsAll Tryd.prog G0 scWords_Γ) : Holds Tryd.prog G0 64 scWords_C := by
  refine fun_ok mixed tOk (ctrOf_ok hΓ) Tryd.func64 rfl rfl rfl rfl (F := funOf Tryd.f64) (fun ps x h => ?_)
  obtain ⟨y, hy, hx⟩ := bind_inv h
  cases hx
  obtain rfl := scWords_inv hy
  have hy' : scWords_d = some y := hy
  refine ⟨noL, noL_ok _, (scWords_eq).trans ?_⟩
  unfold scWords_d at hy'
  rw [scWords_nat] at hy' ⊢
  obtain ⟨z, hz, hz'⟩ := bind_inv hy'
  rw [hz]
  try simp only at hz'
  split at hz'
  · rename_i hno
    cases hz'
    exact if_pos hno
  · cases hz'
def scText_b {R : Type} (kind1 : Int) (k : Bool → Option R) : Option R :=
  cond (kind1 == (3 : Int)) (
    k true) (
    k (kind1 == (4 : Int)))
def scText_E (y : Bool) : PV × List PV := ((PV.bool y), [])
def scText_d (kind1 : Int) : Option (Bool) := scText_b kind1 fun a0 => some a0
def scText_D : List PV → Option (Bool)
  | [(PV.int .i64 kind1)] => scText_d kind1
  | _ => none
def scText_Γ : List (Nat × Cal) := []
def scText_C : Ctr := ⟨[none], Bool, scText_D, scText_E, true, .d⟩
theorem scText_eq (kind1 : Int) :
    funK T G0 (ctrOf scText_Γ) noL .d true [none] (funOf Tryd.f65) [(PV.int .i64 kind1)] = scText_b  kind1 (fun a0 => some (scText_E a0)) := by kernel_rfl
theorem scText_inv {ps : List PV} {y : Bool} (h : scText_D ps = some y) : ∃ (kind1 : Int), ps = [(PV.int .i64 kind1)] := by
  unfold scText_D at h
  split at h
  · exact ⟨_, rfl⟩
  · cases h
theorem scText_nat {R : Type} (kind1 : Int) (k : Bool → Option R) : scText_b kind1 k = Option.bind (scText_b kind1 fun a0 => some a0) fun y => k y := by
  unfold scText_b
  first | rfl | simp only [Option.bind_assoc, bind_cond, bind_ite, Option.bind_some, Option.bind_none]
theorem scText_holds (hΓ : HoldsAll Tryd.prog G0 scText_Γ) : Holds Tryd.prog G0 65 scText_C := by
  refine fun_ok mixed tOk (ctrOf_ok hΓ) Tryd.func65 rfl rfl rfl rfl (F := funOf Tryd.f65) (fun ps x h => ?_)
  obtain ⟨y, hy, hx⟩ := bind_inv h
  cases hx
  obtain ⟨kind1, rfl⟩ := scText_inv hy
  have hy' : scText_d kind1 = some y := hy
  refine ⟨noL, noL_ok _, (scText_eq kind1).trans ?_⟩
  unfold scText_d at hy'
  rw [scText_nat, hy']
  rfl
def scAct_l3 {R : Type} : Nat → ByteArray → ByteArray → Bool → Int → Int → Int → Int → ByteArray → List (List PV) → (Bool → Int → Int → ByteArray → Option R) → (Int → Int → ByteArray → Option R) → Option R
  | 0, _, _, _, _, _, _, _, _, _, _, _ => none
  | n + 1, word11, rest12, is13, i14, i15, i16, i17, s18, es19, k0, k1 =>
    cond (decide (i15 < i14)) (
      if 0 ≤ i15 ∧ i15 < (es19.length : Int) then
        Option.bind (es19[(Int.toNat i15)]?) fun e20 =>
        Option.bind (e20[0]?) fun c21 =>
        Option.bind (PV.asS c21) fun s22 =>
        cond (!(ByteArray.toList s22 == ByteArray.toList word11)) (
          scAct_l3 n word11 rest12 is13 i14 (IntKind.i64.wrap (i15 + (1 : Int))) i16 i17 s18 es19 k0 k1) (
          cond (!is13) (
            scAct_l3 n word11 rest12 is13 i14 (IntKind.i64.wrap (i15 + (1 : Int))) i16 i17 s18 es19 k0 k1) (
            Option.bind (sCut rest12 (ByteArray.mk #[32])) fun y23 =>
            Option.bind (sInt_d y23.1) fun y24 =>
            cond y24.2 (
              cond (decide (y24.1 ≥ (0 : Int))) (
                cond (decide (y24.1 ≤ (9999 : Int))) (
                  meet (
                    Option.bind (scText_d (IntKind.i64.wrap (i15 + (1 : Int)))) fun y25 =>
                    meet (
                      k0 (y23.2.2 == y25) (IntKind.i64.wrap (i15 + (1 : Int))) y24.1 y23.2.1) (
                      k0 (y23.2.2 == y25) (IntKind.i64.wrap (i15 + (1 : Int))) y24.1 y23.2.1)) (
                    Option.bind (scText_d (IntKind.i64.wrap (i15 + (1 : Int)))) fun y26 =>
                    meet (
                      meet (
                        k0 (y23.2.2 == y26) (IntKind.i64.wrap (i15 + (1 : Int))) y24.1 y23.2.1) (
                        k0 (y23.2.2 == y26) (IntKind.i64.wrap (i15 + (1 : Int))) y24.1 y23.2.1)) (
                      k0 (y23.2.2 == y26) (IntKind.i64.wrap (i15 + (1 : Int))) y24.1 y23.2.1))) (
                  meet (
                    meet (
                      k0 false (IntKind.i64.wrap (i15 + (1 : Int))) y24.1 y23.2.1) (
                      k0 false (IntKind.i64.wrap (i15 + (1 : Int))) y24.1 y23.2.1)) (
                    meet (
                      meet (
                        k0 false (IntKind.i64.wrap (i15 + (1 : Int))) y24.1 y23.2.1) (
                        k0 false (IntKind.i64.wrap (i15 + (1 : Int))) y24.1 y23.2.1)) (
                      meet (
                        meet (
                          k0 false (IntKind.i64.wrap (i15 + (1 : Int))) y24.1 y23.2.1) (
                          k0 false (IntKind.i64.wrap (i15 + (1 : Int))) y24.1 y23.2.1)) (
                        k0 false (IntKind.i64.wrap (i15 + (1 : Int))) y24.1 y23.2.1))))) (
                meet (
                  meet (
                    k0 false (IntKind.i64.wrap (i15 + (1 : Int))) y24.1 y23.2.1) (
                    k0 false (IntKind.i64.wrap (i15 + (1 : Int))) y24.1 y23.2.1)) (
                  meet (
                    meet (
                      k0 false (IntKind.i64.wrap (i15 + (1 : Int))) y24.1 y23.2.1) (
                      k0 false (IntKind.i64.wrap (i15 + (1 : Int))) y24.1 y23.2.1)) (
                    meet (
                      meet (
                        k0 false (IntKind.i64.wrap (i15 + (1 : Int))) y24.1 y23.2.1) (
                        k0 false (IntKind.i64.wrap (i15 + (1 : Int))) y24.1 y23.2.1)) (
                      k0 false (IntKind.i64.wrap (i15 + (1 : Int))) y24.1 y23.2.1))))) (
              meet (
                meet (
                  k0 false (IntKind.i64.wrap (i15 + (1 : Int))) y24.1 y23.2.1) (
                  k0 false (IntKind.i64.wrap (i15 + (1 : Int))) y24.1 y23.2.1)) (
                meet (
                  meet (
                    k0 false (IntKind.i64.wrap (i15 + (1 : Int))) y24.1 y23.2.1) (
                    k0 false (IntKind.i64.wrap (i15 + (1 : Int))) y24.1 y23.2.1)) (
                  meet (
                    meet (
                      k0 false (IntKind.i64.wrap (i15 + (1 : Int))) y24.1 y23.2.1) (
                      k0 false (IntKind.i64.wrap (i15 + (1 : Int))) y24.1 y23.2.1)) (
                    k0 false (IntKind.i64.wrap (i15 + (1 : Int))) y24.1 y23.2.1))))))
      else none) (
      k1 i16 i17 s18)
def scAct_b {R : Type} (n : Nat) (line1 : ByteArray) (k : Int → Int → ByteArray → Bool → Option R) : Option R :=
  Option.bind (sCut line1 (ByteArray.mk #[32])) fun y2 =>
  Option.bind (scWords_d) fun y3 =>
  scAct_l3 n y2.1 y2.2.1 y2.2.2 (y3.length : Int) 0 0 0 (ByteArray.mk #[]) y3
    (fun (b4 : Bool) (i5 : Int) (i6 : Int) (s7 : ByteArray) =>
      k i5 i6 s7 b4)
    (fun (i8 : Int) (i9 : Int) (s10 : ByteArray) =>
      k 0 0 (ByteArray.mk #[]) false)
def scAct_E (y : Int × Int × ByteArray × Bool) : PV × List PV := ((PV.tuple [(PV.agg [(PV.int .i64 y.1), (PV.int .i64 y.2.1), (PV.str y.2.2.1)]), (PV.bool y.2.2.2)]), [])
def scAct_D : List PV → Option (Int × Int × ByteArray × Bool)
  | [(PV.str line1)] => sScAct line1
  | _ => none
def scAct_Γ : List (Nat × Cal) := [(39, .ctr cutS_C), (64, .ctr scWords_C), (17, .ctr sInt_C), (65, .ctr scText_C)]
def scAct_C : Ctr := ⟨[none], Int × Int × ByteArray × Bool, scAct_D, scAct_E, true, .d⟩
def scAct_cfg : List (Nat × LC) := [(3, ⟨[2, 4, 5, 6, 21, 22, 23], [], [], []⟩),
  (2000003, ⟨[2, 3], [], [], []⟩),
  (1003000, ⟨[2], [], [], []⟩)]
def scAct_pat : Nat → Option SP
  | 3 => some ⟨sparse .undef [(2, (.ref 0 0)), (4, (.val .str)), (5, (.val .str)), (6, (.val .bool)), (21, (.ow 1)), (22, (.val (.int .i64))), (23, (.val (.int .i64)))] 0 72, [(.box [(.val (.int .i64)), (.val (.int .i64)), (.val .str)]), (.row 1)], []⟩
  | _ => none
def scAct_patj : Nat → Option SP
  | _ => none
def scAct_L3 (n : Nat) (ls : List Leaf) (R : Type) (k : Ex → St → Option R) : Option R :=
  match ls with
  | [.str word11, .str rest12, .bool is13, .int i14, .int i15, .int i16, .int i17, .str s18, .rows es19] => scAct_l3 n word11 rest12 is13 i14 i15 i16 i17 s18 es19 (fun y1027 y1028 y1029 y1030 => k .ret ⟨sparse .undef [(2, (TV.ref 0 0)), (3, (TV.val (PV.bool y1027)))] 0 72, [(Ob.pbox (PV.agg [(PV.int .i64 y1028), (PV.int .i64 y1029), (PV.str y1030)]) 3)], []⟩)
      (fun y1031 y1032 y1033 => k (.exit 0) ⟨sparse .undef [(2, (TV.ref 0 0))] 0 72, [(Ob.box [(TV.val (PV.int .i64 y1031)), (TV.val (PV.int .i64 y1032)), (TV.val (PV.str y1033))])], []⟩)
  | _ => none
def scAct_L (n key : Nat) (ls : List Leaf) (R : Type) (k : Ex → St → Option R) : Option R :=
  match key with
  | 3 => scAct_L3 n ls R k
  | _ => none
def scAct_J (n key : Nat) (ls : List Leaf) (R : Type) (k : Ex → St → Option R) : Option R :=
  match key with
  | _ => none
def scAct_on : Code → Bool := fun _ => false
def scAct_Λ : Nat → Loops := patL (normBy scAct_cfg) scAct_pat scAct_L (normJ scAct_cfg) scAct_on scAct_patj scAct_J
theorem scAct_step3 (n : Nat) (word11 : ByteArray) (rest12 : ByteArray) (is13 : Bool) (i14 : Int) (i15 : Int) (i16 : Int) (i17 : Int) (s18 : ByteArray) (es19 : List (List PV))  (R : Type) (k : Ex → St → Option R) :
    roundK T G0 (ctrOf scAct_Γ) (normBy scAct_cfg) (scAct_Λ n) (codeAt [1, 1, 0, 1, 0, 0] (bodyOf Tryd.f40)) (buildSt ⟨sparse .undef [(2, (.ref 0 0)), (4, (.val .str)), (5, (.val .str)), (6, (.val .bool)), (21, (.ow 1)), (22, (.val (.int .i64))), (23, (.val (.int .i64)))] 0 72, [(.box [(.val (.int .i64)), (.val (.int .i64)), (.val .str)]), (.row 1)], []⟩ [.str word11, .str rest12, .bool is13, .int i14, .int i15, .int i16, .int i17, .str s18, .rows es19]) R k = scAct_L3 (n + 1) [.str word11, .str rest12, .bool is13, .int i14, .int i15, .int i16, .int i17, .str s18, .rows es19] R k := by kernel_rfl
theorem scAct_eq (n : Nat) (line1 : ByteArray) :
    funK T G0 (ctrOf scAct_Γ) (scAct_Λ n) .d true [none] (funOf Tryd.f40) [(PV.str line1)] = scAct_b n  line1 (fun a0 a1 a2 a3 => some (scAct_E (a0, a1, a2, a3))) := by kernel_rfl
theorem scAct_inv {ps : List PV} {y : Int × Int × ByteArray × Bool} (h : scAct_D ps = some y) : ∃ (line1 : ByteArray), ps = [(PV.str line1)] := by
  unfold scAct_D at h
  split at h
  · exact ⟨_, rfl⟩
  · cases h
theorem scAct_loops : loopsOf (bodyOf Tryd.f40) = [codeAt [1, 1, 0, 1, 0, 0] (bodyOf Tryd.f40)] := by kernel_rfl
theorem scAct_holds (hΓ : HoldsAll Tryd.prog G0 scAct_Γ) (hok : ∀ (line1 : ByteArray) (y : Int × Int × ByteArray × Bool), sScAct line1 = some y → ∃ n, ∀ (R : Type) (k : Int → Int → ByteArray → Bool → Option R), scAct_b n  line1 k = k y.1 y.2.1 y.2.2.1 y.2.2.2) : Holds Tryd.prog G0 40 scAct_C := by
  refine fun_pat mixed tOk (ctrOf_ok hΓ) Tryd.func40 rfl rfl rfl rfl (F := funOf Tryd.f40) (normBy_ok scAct_cfg) (pat := scAct_pat) (L := scAct_L) (normJ_ok scAct_cfg) (on := scAct_on) (patj := scAct_patj) (J := scAct_J) (fun c hc ls R k => ?_) (fun c hc p hp m ls R k r h => ?_) (fun c hc p hp m ls R k r h => ?_) (fun ps x h => ?_)
  · rw [show (funOf Tryd.f40).code = bodyOf Tryd.f40 from rfl, scAct_loops] at hc
    simp only [List.mem_cons, List.not_mem_nil, or_false] at hc
    rcases hc with rfl
    · show scAct_L3 0 ls R k = none
      unfold scAct_L3
      split
      · rfl
      · rfl
  · rw [show (funOf Tryd.f40).code = bodyOf Tryd.f40 from rfl, scAct_loops] at hc
    simp only [List.mem_cons, List.not_mem_nil, or_false] at hc
    rcases hc with rfl
    · have hp' : p = ⟨sparse .undef [(2, (.ref 0 0)), (4, (.val .str)), (5, (.val .str)), (6, (.val .bool)), (21, (.ow 1)), (22, (.val (.int .i64))), (23, (.val (.int .i64)))] 0 72, [(.box [(.val (.int .i64)), (.val (.int .i64)), (.val .str)]), (.row 1)], []⟩ := (Option.some.inj (hp : some _ = some p)).symm
      subst hp'
      change scAct_L3 (m + 1) ls R k = some r at h
      have h' := h
      unfold scAct_L3 at h'
      split at h'
      · exact (scAct_step3 m _ _ _ _ _ _ _ _ _ R k).trans h
      · cases h'
  · cases (List.mem_filter.1 hc).2
  · obtain ⟨y, hy, hx⟩ := bind_inv h
    cases hx
    obtain ⟨line1, rfl⟩ := scAct_inv hy
    obtain ⟨n, hn⟩ := hok line1 y hy
    exact ⟨n, (scAct_eq n line1).trans (hn _ _)⟩
def scParse_l2 {R : Type} : Nat → ByteArray → List (List PV) → (Int → Option R) → (List (List PV) → Option R) → Option R
  | 0, _, _, _, _ => none
  | n + 1, text4, es5, k0, k1 =>
    cond (!(ByteArray.toList text4 == ByteArray.toList (ByteArray.mk #[]))) (
      Option.bind (sCut text4 (ByteArray.mk #[10])) fun y6 =>
      Option.bind (sScAct y6.1) fun y7 =>
      cond (!y6.2.2) (
        k0 2) (
        cond (!y7.2.2.2) (
          k0 2) (
          if (es5.length + ([[(PV.int .i64 y7.1), (PV.int .i64 y7.2.1), (PV.str y7.2.2.1)]] : List (List PV)).length) * 32 ≤ maxBytes then
            scParse_l2 n y6.2.1 (es5 ++ [[(PV.int .i64 y7.1), (PV.int .i64 y7.2.1), (PV.str y7.2.2.1)]]) k0 k1
          else none))) (
      k1 es5)
def scParse_b {R : Type} (n : Nat) (text1 : ByteArray) (k : List (List PV) → Int → Option R) : Option R :=
  scParse_l2 n text1 []
    (fun (i2 : Int) =>
      k [] i2)
    (fun (es3 : List (List PV)) =>
      k es3 0)
def scParse_E (y : (List (List PV)) × Int) : PV × List PV := ((PV.tuple [(PV.os y.1 3), (PV.int .i64 y.2)]), [])
def scParse_D : List PV → Option ((List (List PV)) × Int)
  | [(PV.str text1)] => sScParse text1
  | _ => none
def scParse_Γ : List (Nat × Cal) := [(39, .ctr cutS_C), (40, .ctr scAct_C)]
def scParse_C : Ctr := ⟨[none], (List (List PV)) × Int, scParse_D, scParse_E, true, (.t [.s, .d])⟩
def scParse_cfg : List (Nat × LC) := [(2, ⟨[0, 4], [4], [], []⟩),
  (2000002, ⟨[2, 3], [], [], []⟩),
  (1002000, ⟨[4], [], [], []⟩)]
def scParse_pat : Nat → Option SP
  | 2 => some ⟨sparse .undef [(0, (.val .str)), (4, (.ow 0))] 0 35, [(.row 3)], []⟩
  | _ => none
def scParse_patj : Nat → Option SP
  | _ => none
def scParse_L2 (n : Nat) (ls : List Leaf) (R : Type) (k : Ex → St → Option R) : Option R :=
  match ls with
  | [.str text4, .rows es5] => scParse_l2 n text4 es5 (fun y1008 => k .ret ⟨sparse .undef [(2, (TV.nil 3)), (3, (TV.val (PV.int .i64 y1008)))] 0 35, [], []⟩)
      (fun y1009 => k (.exit 0) ⟨sparse .undef [(4, (TV.ow 0))] 0 35, [(Ob.row y1009 3)], []⟩)
  | _ => none
def scParse_L (n key : Nat) (ls : List Leaf) (R : Type) (k : Ex → St → Option R) : Option R :=
  match key with
  | 2 => scParse_L2 n ls R k
  | _ => none
def scParse_J (n key : Nat) (ls : List Leaf) (R : Type) (k : Ex → St → Option R) : Option R :=
  match key with
  | _ => none
def scParse_on : Code → Bool := fun _ => false
def scParse_Λ : Nat → Loops := patL (normBy scParse_cfg) scParse_pat scParse_L (normJ scParse_cfg) scParse_on scParse_patj scParse_J
theorem scParse_step2 (n : Nat) (text4 : ByteArray) (es5 : List (List PV))  (R : Type) (k : Ex → St → Option R) :
    roundK T G0 (ctrOf scParse_Γ) (normBy scParse_cfg) (scParse_Λ n) (codeAt [1, 1, 0, 0, 0] (bodyOf Tryd.f18)) (buildSt ⟨sparse .undef [(0, (.val .str)), (4, (.ow 0))] 0 35, [(.row 3)], []⟩ [.str text4, .rows es5]) R k = scParse_L2 (n + 1) [.str text4, .rows es5] R k := by kernel_rfl
theorem scParse_eq (n : Nat) (text1 : ByteArray) :
    funK T G0 (ctrOf scParse_Γ) (scParse_Λ n) (.t [.s, .d]) true [none] (funOf Tryd.f18) [(PV.str text1)] = scParse_b n  text1 (fun a0 a1 => if (noMem (scParse_E (a0, a1)).1 && noMemL (scParse_E (a0, a1)).2) = true then some (scParse_E (a0, a1)) else none) := by kernel_rfl
theorem scParse_inv {ps : List PV} {y : (List (List PV)) × Int} (h : scParse_D ps = some y) : ∃ (text1 : ByteArray), ps = [(PV.str text1)] := by
  unfold scParse_D at h
  split at h
  · exact ⟨_, rfl⟩
  · cases h
theorem scParse_loops : loopsOf (bodyOf Tryd.f18) = [codeAt [1, 1, 0, 0, 0] (bodyOf Tryd.f18)] := by kernel_rfl
theorem scParse_holds (hΓ : HoldsAll Tryd.prog G0 scParse_Γ) (hok : ∀ (text1 : ByteArray) (y : (List (List PV)) × Int), sScParse text1 = some y → ∃ n, ∀ (R : Type) (k : List (List PV) → Int → Option R), scParse_b n  text1 k = k y.1 y.2) (hno : ∀ (text1 : ByteArray) (y : (List (List PV)) × Int), sScParse text1 = some y → (noMem (scParse_E y).1 && noMemL (scParse_E y).2) = true) : Holds Tryd.prog G0 18 scParse_C := by
  refine fun_pat mixed tOk (ctrOf_ok hΓ) Tryd.func18 rfl rfl rfl rfl (F := funOf Tryd.f18) (normBy_ok scParse_cfg) (pat := scParse_pat) (L := scParse_L) (normJ_ok scParse_cfg) (on := scParse_on) (patj := scParse_patj) (J := scParse_J) (fun c hc ls R k => ?_) (fun c hc p hp m ls R k r h => ?_) (fun c hc p hp m ls R k r h => ?_) (fun ps x h => ?_)
  · rw [show (funOf Tryd.f18).code = bodyOf Tryd.f18 from rfl, scParse_loops] at hc
    simp only [List.mem_cons, List.not_mem_nil, or_false] at hc
    rcases hc with rfl
    · show scParse_L2 0 ls R k = none
      unfold scParse_L2
      split
      · rfl
      · rfl
  · rw [show (funOf Tryd.f18).code = bodyOf Tryd.f18 from rfl, scParse_loops] at hc
    simp only [List.mem_cons, List.not_mem_nil, or_false] at hc
    rcases hc with rfl
    · have hp' : p = ⟨sparse .undef [(0, (.val .str)), (4, (.ow 0))] 0 35, [(.row 3)], []⟩ := (Option.some.inj (hp : some _ = some p)).symm
      subst hp'
      change scParse_L2 (m + 1) ls R k = some r at h
      have h' := h
      unfold scParse_L2 at h'
      split at h'
      · exact (scParse_step2 m _ _ R k).trans h
      · cases h'
  · cases (List.mem_filter.1 hc).2
  · obtain ⟨y, hy, hx⟩ := bind_inv h
    cases hx
    obtain ⟨text1, rfl⟩ := scParse_inv hy
    obtain ⟨n, hn⟩ := hok text1 y hy
    exact ⟨n, (scParse_eq n text1).trans ((hn _ _).trans (if_pos (hno text1 y hy)))⟩
def scLine_b {R : Type} (a1 : Int) (a2 : Int) (a3 : ByteArray) (k : ByteArray → Option R) : Option R :=
  cond (decide (a1 < (1 : Int))) (
    k (ByteArray.mk #[])) (
    cond (decide (a1 > (6 : Int))) (
      k (ByteArray.mk #[])) (
      meet (
        Option.bind (scWords_d) fun y4 =>
        meet (
          if 0 ≤ (IntKind.i64.wrap (a1 - (1 : Int))) ∧ (IntKind.i64.wrap (a1 - (1 : Int))) < (y4.length : Int) then
            meet (
              Option.bind (y4[(Int.toNat (IntKind.i64.wrap (a1 - (1 : Int))))]?) fun e5 =>
              Option.bind (e5[0]?) fun c6 =>
              Option.bind (PV.asS c6) fun s7 =>
              meet (
                if (s7).size + ((ByteArray.mk #[32])).size ≤ 140737488355328 then
                  Option.bind (digits_d a2) fun y8 =>
                  if ((s7 ++ (ByteArray.mk #[32]))).size + (y8).size ≤ 140737488355328 then
                    Option.bind (scText_d a1) fun y9 =>
                    cond y9 (
                      if (((s7 ++ (ByteArray.mk #[32])) ++ y8)).size + ((ByteArray.mk #[32])).size ≤ 140737488355328 then
                        if ((((s7 ++ (ByteArray.mk #[32])) ++ y8) ++ (ByteArray.mk #[32]))).size + (a3).size ≤ 140737488355328 then
                          k ((((s7 ++ (ByteArray.mk #[32])) ++ y8) ++ (ByteArray.mk #[32])) ++ a3)
                        else none
                      else none) (
                      k ((s7 ++ (ByteArray.mk #[32])) ++ y8))
                  else none
                else none) (
                Option.bind (digits_d a2) fun y10 =>
                if (s7).size + ((ByteArray.mk #[32])).size ≤ 140737488355328 then
                  if ((s7 ++ (ByteArray.mk #[32]))).size + (y10).size ≤ 140737488355328 then
                    Option.bind (scText_d a1) fun y11 =>
                    cond y11 (
                      if (((s7 ++ (ByteArray.mk #[32])) ++ y10)).size + ((ByteArray.mk #[32])).size ≤ 140737488355328 then
                        if ((((s7 ++ (ByteArray.mk #[32])) ++ y10) ++ (ByteArray.mk #[32]))).size + (a3).size ≤ 140737488355328 then
                          k ((((s7 ++ (ByteArray.mk #[32])) ++ y10) ++ (ByteArray.mk #[32])) ++ a3)
                        else none
                      else none) (
                      k ((s7 ++ (ByteArray.mk #[32])) ++ y10))
                  else none
                else none)) (
              Option.bind (digits_d a2) fun y12 =>
              Option.bind (y4[(Int.toNat (IntKind.i64.wrap (a1 - (1 : Int))))]?) fun e13 =>
              Option.bind (e13[0]?) fun c14 =>
              Option.bind (PV.asS c14) fun s15 =>
              if (s15).size + ((ByteArray.mk #[32])).size ≤ 140737488355328 then
                if ((s15 ++ (ByteArray.mk #[32]))).size + (y12).size ≤ 140737488355328 then
                  Option.bind (scText_d a1) fun y16 =>
                  cond y16 (
                    if (((s15 ++ (ByteArray.mk #[32])) ++ y12)).size + ((ByteArray.mk #[32])).size ≤ 140737488355328 then
                      if ((((s15 ++ (ByteArray.mk #[32])) ++ y12) ++ (ByteArray.mk #[32]))).size + (a3).size ≤ 140737488355328 then
                        k ((((s15 ++ (ByteArray.mk #[32])) ++ y12) ++ (ByteArray.mk #[32])) ++ a3)
                      else none
                    else none) (
                    k ((s15 ++ (ByteArray.mk #[32])) ++ y12))
                else none
              else none)
          else none) (
          Option.bind (digits_d a2) fun y17 =>
          if 0 ≤ (IntKind.i64.wrap (a1 - (1 : Int))) ∧ (IntKind.i64.wrap (a1 - (1 : Int))) < (y4.length : Int) then
            Option.bind (y4[(Int.toNat (IntKind.i64.wrap (a1 - (1 : Int))))]?) fun e18 =>
            Option.bind (e18[0]?) fun c19 =>
            Option.bind (PV.asS c19) fun s20 =>
            if (s20).size + ((ByteArray.mk #[32])).size ≤ 140737488355328 then
              if ((s20 ++ (ByteArray.mk #[32]))).size + (y17).size ≤ 140737488355328 then
                Option.bind (scText_d a1) fun y21 =>
                cond y21 (
                  if (((s20 ++ (ByteArray.mk #[32])) ++ y17)).size + ((ByteArray.mk #[32])).size ≤ 140737488355328 then
                    if ((((s20 ++ (ByteArray.mk #[32])) ++ y17) ++ (ByteArray.mk #[32]))).size + (a3).size ≤ 140737488355328 then
                      k ((((s20 ++ (ByteArray.mk #[32])) ++ y17) ++ (ByteArray.mk #[32])) ++ a3)
                    else none
                  else none) (
                  k ((s20 ++ (ByteArray.mk #[32])) ++ y17))
              else none
            else none
          else none)) (
        meet (
        meet (
          Option.bind (scWords_d) fun y22 =>
          if 0 ≤ (IntKind.i64.wrap (a1 - (1 : Int))) ∧ (IntKind.i64.wrap (a1 - (1 : Int))) < (y22.length : Int) then
            meet (
              Option.bind (y22[(Int.toNat (IntKind.i64.wrap (a1 - (1 : Int))))]?) fun e23 =>
              Option.bind (e23[0]?) fun c24 =>
              Option.bind (PV.asS c24) fun s25 =>
              meet (
                if (s25).size + ((ByteArray.mk #[32])).size ≤ 140737488355328 then
                  Option.bind (digits_d a2) fun y26 =>
                  if ((s25 ++ (ByteArray.mk #[32]))).size + (y26).size ≤ 140737488355328 then
                    Option.bind (scText_d a1) fun y27 =>
                    cond y27 (
                      if (((s25 ++ (ByteArray.mk #[32])) ++ y26)).size + ((ByteArray.mk #[32])).size ≤ 140737488355328 then
                        if ((((s25 ++ (ByteArray.mk #[32])) ++ y26) ++ (ByteArray.mk #[32]))).size + (a3).size ≤ 140737488355328 then
                          k ((((s25 ++ (ByteArray.mk #[32])) ++ y26) ++ (ByteArray.mk #[32])) ++ a3)
                        else none
                      else none) (
                      k ((s25 ++ (ByteArray.mk #[32])) ++ y26))
                  else none
                else none) (
                Option.bind (digits_d a2) fun y28 =>
                if (s25).size + ((ByteArray.mk #[32])).size ≤ 140737488355328 then
                  if ((s25 ++ (ByteArray.mk #[32]))).size + (y28).size ≤ 140737488355328 then
                    Option.bind (scText_d a1) fun y29 =>
                    cond y29 (
                      if (((s25 ++ (ByteArray.mk #[32])) ++ y28)).size + ((ByteArray.mk #[32])).size ≤ 140737488355328 then
                        if ((((s25 ++ (ByteArray.mk #[32])) ++ y28) ++ (ByteArray.mk #[32]))).size + (a3).size ≤ 140737488355328 then
                          k ((((s25 ++ (ByteArray.mk #[32])) ++ y28) ++ (ByteArray.mk #[32])) ++ a3)
                        else none
                      else none) (
                      k ((s25 ++ (ByteArray.mk #[32])) ++ y28))
                  else none
                else none)) (
              Option.bind (digits_d a2) fun y30 =>
              Option.bind (y22[(Int.toNat (IntKind.i64.wrap (a1 - (1 : Int))))]?) fun e31 =>
              Option.bind (e31[0]?) fun c32 =>
              Option.bind (PV.asS c32) fun s33 =>
              if (s33).size + ((ByteArray.mk #[32])).size ≤ 140737488355328 then
                if ((s33 ++ (ByteArray.mk #[32]))).size + (y30).size ≤ 140737488355328 then
                  Option.bind (scText_d a1) fun y34 =>
                  cond y34 (
                    if (((s33 ++ (ByteArray.mk #[32])) ++ y30)).size + ((ByteArray.mk #[32])).size ≤ 140737488355328 then
                      if ((((s33 ++ (ByteArray.mk #[32])) ++ y30) ++ (ByteArray.mk #[32]))).size + (a3).size ≤ 140737488355328 then
                        k ((((s33 ++ (ByteArray.mk #[32])) ++ y30) ++ (ByteArray.mk #[32])) ++ a3)
                      else none
                    else none) (
                    k ((s33 ++ (ByteArray.mk #[32])) ++ y30))
                else none
              else none)
          else none) (
          Option.bind (scWords_d) fun y35 =>
          if 0 ≤ (IntKind.i64.wrap (a1 - (1 : Int))) ∧ (IntKind.i64.wrap (a1 - (1 : Int))) < (y35.length : Int) then
            Option.bind (digits_d a2) fun y36 =>
            Option.bind (y35[(Int.toNat (IntKind.i64.wrap (a1 - (1 : Int))))]?) fun e37 =>
            Option.bind (e37[0]?) fun c38 =>
            Option.bind (PV.asS c38) fun s39 =>
            if (s39).size + ((ByteArray.mk #[32])).size ≤ 140737488355328 then
              if ((s39 ++ (ByteArray.mk #[32]))).size + (y36).size ≤ 140737488355328 then
                Option.bind (scText_d a1) fun y40 =>
                cond y40 (
                  if (((s39 ++ (ByteArray.mk #[32])) ++ y36)).size + ((ByteArray.mk #[32])).size ≤ 140737488355328 then
                    if ((((s39 ++ (ByteArray.mk #[32])) ++ y36) ++ (ByteArray.mk #[32]))).size + (a3).size ≤ 140737488355328 then
                      k ((((s39 ++ (ByteArray.mk #[32])) ++ y36) ++ (ByteArray.mk #[32])) ++ a3)
                    else none
                  else none) (
                  k ((s39 ++ (ByteArray.mk #[32])) ++ y36))
              else none
            else none
          else none)) (
        meet (
          Option.bind (scWords_d) fun y41 =>
          Option.bind (digits_d a2) fun y42 =>
          if 0 ≤ (IntKind.i64.wrap (a1 - (1 : Int))) ∧ (IntKind.i64.wrap (a1 - (1 : Int))) < (y41.length : Int) then
            Option.bind (y41[(Int.toNat (IntKind.i64.wrap (a1 - (1 : Int))))]?) fun e43 =>
            Option.bind (e43[0]?) fun c44 =>
            Option.bind (PV.asS c44) fun s45 =>
            if (s45).size + ((ByteArray.mk #[32])).size ≤ 140737488355328 then
              if ((s45 ++ (ByteArray.mk #[32]))).size + (y42).size ≤ 140737488355328 then
                Option.bind (scText_d a1) fun y46 =>
                cond y46 (
                  if (((s45 ++ (ByteArray.mk #[32])) ++ y42)).size + ((ByteArray.mk #[32])).size ≤ 140737488355328 then
                    if ((((s45 ++ (ByteArray.mk #[32])) ++ y42) ++ (ByteArray.mk #[32]))).size + (a3).size ≤ 140737488355328 then
                      k ((((s45 ++ (ByteArray.mk #[32])) ++ y42) ++ (ByteArray.mk #[32])) ++ a3)
                    else none
                  else none) (
                  k ((s45 ++ (ByteArray.mk #[32])) ++ y42))
              else none
            else none
          else none) (
          Option.bind (scWords_d) fun y47 =>
          if 0 ≤ (IntKind.i64.wrap (a1 - (1 : Int))) ∧ (IntKind.i64.wrap (a1 - (1 : Int))) < (y47.length : Int) then
            Option.bind (digits_d a2) fun y48 =>
            Option.bind (y47[(Int.toNat (IntKind.i64.wrap (a1 - (1 : Int))))]?) fun e49 =>
            Option.bind (e49[0]?) fun c50 =>
            Option.bind (PV.asS c50) fun s51 =>
            if (s51).size + ((ByteArray.mk #[32])).size ≤ 140737488355328 then
              if ((s51 ++ (ByteArray.mk #[32]))).size + (y48).size ≤ 140737488355328 then
                Option.bind (scText_d a1) fun y52 =>
                cond y52 (
                  if (((s51 ++ (ByteArray.mk #[32])) ++ y48)).size + ((ByteArray.mk #[32])).size ≤ 140737488355328 then
                    if ((((s51 ++ (ByteArray.mk #[32])) ++ y48) ++ (ByteArray.mk #[32]))).size + (a3).size ≤ 140737488355328 then
                      k ((((s51 ++ (ByteArray.mk #[32])) ++ y48) ++ (ByteArray.mk #[32])) ++ a3)
                    else none
                  else none) (
                  k ((s51 ++ (ByteArray.mk #[32])) ++ y48))
              else none
            else none
          else none)))))
def scLine_E (y : ByteArray) : PV × List PV := ((PV.str y), [])
def scLine_D : List PV → Option (ByteArray)
  | [(PV.agg [(PV.int .i64 a1), (PV.int .i64 a2), (PV.str a3)])] => sScLine a1 a2 a3
  | _ => none
def scLine_Γ : List (Nat × Cal) := [(64, .ctr scWords_C), (14, .ctr digits_C), (65, .ctr scText_C)]
def scLine_C : Ctr := ⟨[none], ByteArray, scLine_D, scLine_E, true, .d⟩
theorem scLine_eq (a1 : Int) (a2 : Int) (a3 : ByteArray) :
    funK T G0 (ctrOf scLine_Γ) noL .d true [none] (funOf Tryd.f41) [(PV.agg [(PV.int .i64 a1), (PV.int .i64 a2), (PV.str a3)])] = scLine_b  a1 a2 a3 (fun a0 => some (scLine_E a0)) := by kernel_rfl
theorem scLine_inv {ps : List PV} {y : ByteArray} (h : scLine_D ps = some y) : ∃ (a1 : Int) (a2 : Int) (a3 : ByteArray), ps = [(PV.agg [(PV.int .i64 a1), (PV.int .i64 a2), (PV.str a3)])] := by
  unfold scLine_D at h
  split at h
  · exact ⟨_, _, _, rfl⟩
  · cases h
theorem scLine_holds (hΓ : HoldsAll Tryd.prog G0 scLine_Γ) (hok : ∀ (a1 : Int) (a2 : Int) (a3 : ByteArray) (y : ByteArray), sScLine a1 a2 a3 = some y → ∀ (R : Type) (k : ByteArray → Option R), scLine_b  a1 a2 a3 k = k y) : Holds Tryd.prog G0 41 scLine_C := by
  refine fun_ok mixed tOk (ctrOf_ok hΓ) Tryd.func41 rfl rfl rfl rfl (F := funOf Tryd.f41) (fun ps x h => ?_)
  obtain ⟨y, hy, hx⟩ := bind_inv h
  cases hx
  obtain ⟨a1, a2, a3, rfl⟩ := scLine_inv hy
  refine ⟨noL, noL_ok _, (scLine_eq a1 a2 a3).trans (hok a1 a2 a3 y hy _ _)⟩
def scPrint_l3 {R : Type} : Nat → ByteArray → List (List PV) → Int → Int → (ByteArray → Int → Option R) → (ByteArray → Option R) → Option R
  | 0, _, _, _, _, _, _ => none
  | n + 1, out5, es6, i7, i8, k0, k1 =>
    cond (decide (i8 < i7)) (
      Option.bind (idx es6 i8) fun e9 =>
      if e9.length = 3 then
        Option.bind (subAgg e9 0 3) fun p10 =>
        if (PV.isAgg p10 3) = true then
          Option.bind (scLine_D [p10]) fun y11 =>
          Option.bind (sScAct y11) fun y12 =>
          cond (!y12.2.2.2) (
            k0 (ByteArray.mk #[]) 1) (
            Option.bind (PV.asAgg p10) fun cs13 =>
            Option.bind (eqvs T [(3, 0), (3, 1), (9, 2)] [(PV.int .i64 y12.1), (PV.int .i64 y12.2.1), (PV.str y12.2.2.1)] cs13) fun b14 =>
            cond (!b14) (
              k0 (ByteArray.mk #[]) 1) (
              Option.bind (sContains y11 (ByteArray.mk #[10])) fun y15 =>
              cond y15 (
                k0 (ByteArray.mk #[]) 1) (
                if (out5).size + (y11).size ≤ 140737488355328 then
                  if ((out5 ++ y11)).size + ((ByteArray.mk #[10])).size ≤ 140737488355328 then
                    scPrint_l3 n ((out5 ++ y11) ++ (ByteArray.mk #[10])) es6 i7 (IntKind.i64.wrap (i8 + (1 : Int))) k0 k1
                  else none
                else none)))
        else none
      else none) (
      k1 out5)
def scPrint_b {R : Type} (n : Nat) (l1 : List (List PV)) (k : ByteArray → Int → Option R) : Option R :=
  scPrint_l3 n (ByteArray.mk #[]) l1 (l1.length : Int) 0 k
    (fun (out4 : ByteArray) =>
      k out4 0)
def scPrint_E (y : ByteArray × Int) : PV × List PV := ((PV.tuple [(PV.str y.1), (PV.int .i64 y.2)]), [])
def scPrint_D : List PV → Option (ByteArray × Int)
  | [(PV.fs l1)] => sScPrint l1
  | _ => none
def scPrint_Γ : List (Nat × Cal) := [(41, .ctr scLine_C), (40, .ctr scAct_C), (42, .ctr containsS_C)]
def scPrint_C : Ctr := ⟨[none], ByteArray × Int, scPrint_D, scPrint_E, true, .d⟩
def scPrint_cfg : List (Nat × LC) := [(3, ⟨[4, 10, 11, 12], [], [], []⟩),
  (2000003, ⟨[2, 3], [], [], []⟩),
  (1003000, ⟨[4], [], [], []⟩)]
def scPrint_pat : Nat → Option SP
  | 3 => some ⟨sparse .undef [(4, (.val .str)), (10, (.val .fs)), (11, (.val (.int .i64))), (12, (.val (.int .i64)))] 0 40, [], []⟩
  | _ => none
def scPrint_patj : Nat → Option SP
  | _ => none
def scPrint_L3 (n : Nat) (ls : List Leaf) (R : Type) (k : Ex → St → Option R) : Option R :=
  match ls with
  | [.str out5, .rows es6, .int i7, .int i8] => scPrint_l3 n out5 es6 i7 i8 (fun y1016 y1017 => k .ret ⟨sparse .undef [(2, (TV.val (PV.str y1016))), (3, (TV.val (PV.int .i64 y1017)))] 0 40, [], []⟩)
      (fun y1018 => k (.exit 0) ⟨sparse .undef [(4, (TV.val (PV.str y1018)))] 0 40, [], []⟩)
  | _ => none
def scPrint_L (n key : Nat) (ls : List Leaf) (R : Type) (k : Ex → St → Option R) : Option R :=
  match key with
  | 3 => scPrint_L3 n ls R k
  | _ => none
def scPrint_J (n key : Nat) (ls : List Leaf) (R : Type) (k : Ex → St → Option R) : Option R :=
  match key with
  | _ => none
def scPrint_on : Code → Bool := fun _ => false
def scPrint_Λ : Nat → Loops := patL (normBy scPrint_cfg) scPrint_pat scPrint_L (normJ scPrint_cfg) scPrint_on scPrint_patj scPrint_J
theorem scPrint_step3 (n : Nat) (out5 : ByteArray) (es6 : List (List PV)) (i7 : Int) (i8 : Int)  (R : Type) (k : Ex → St → Option R) :
    roundK T G0 (ctrOf scPrint_Γ) (normBy scPrint_cfg) (scPrint_Λ n) (codeAt [1, 1, 0, 1, 0, 0] (bodyOf Tryd.f19)) (buildSt ⟨sparse .undef [(4, (.val .str)), (10, (.val .fs)), (11, (.val (.int .i64))), (12, (.val (.int .i64)))] 0 40, [], []⟩ [.str out5, .rows es6, .int i7, .int i8]) R k = scPrint_L3 (n + 1) [.str out5, .rows es6, .int i7, .int i8] R k := by kernel_rfl
theorem scPrint_eq (n : Nat) (l1 : List (List PV)) :
    funK T G0 (ctrOf scPrint_Γ) (scPrint_Λ n) .d true [none] (funOf Tryd.f19) [(PV.fs l1)] = scPrint_b n  l1 (fun a0 a1 => some (scPrint_E (a0, a1))) := by kernel_rfl
theorem scPrint_inv {ps : List PV} {y : ByteArray × Int} (h : scPrint_D ps = some y) : ∃ (l1 : List (List PV)), ps = [(PV.fs l1)] := by
  unfold scPrint_D at h
  split at h
  · exact ⟨_, rfl⟩
  · cases h
theorem scPrint_loops : loopsOf (bodyOf Tryd.f19) = [codeAt [1, 1, 0, 1, 0, 0] (bodyOf Tryd.f19)] := by kernel_rfl
theorem scPrint_holds (hΓ : HoldsAll Tryd.prog G0 scPrint_Γ) (hok : ∀ (l1 : List (List PV)) (y : ByteArray × Int), sScPrint l1 = some y → ∃ n, ∀ (R : Type) (k : ByteArray → Int → Option R), scPrint_b n  l1 k = k y.1 y.2) : Holds Tryd.prog G0 19 scPrint_C := by
  refine fun_pat mixed tOk (ctrOf_ok hΓ) Tryd.func19 rfl rfl rfl rfl (F := funOf Tryd.f19) (normBy_ok scPrint_cfg) (pat := scPrint_pat) (L := scPrint_L) (normJ_ok scPrint_cfg) (on := scPrint_on) (patj := scPrint_patj) (J := scPrint_J) (fun c hc ls R k => ?_) (fun c hc p hp m ls R k r h => ?_) (fun c hc p hp m ls R k r h => ?_) (fun ps x h => ?_)
  · rw [show (funOf Tryd.f19).code = bodyOf Tryd.f19 from rfl, scPrint_loops] at hc
    simp only [List.mem_cons, List.not_mem_nil, or_false] at hc
    rcases hc with rfl
    · show scPrint_L3 0 ls R k = none
      unfold scPrint_L3
      split
      · rfl
      · rfl
  · rw [show (funOf Tryd.f19).code = bodyOf Tryd.f19 from rfl, scPrint_loops] at hc
    simp only [List.mem_cons, List.not_mem_nil, or_false] at hc
    rcases hc with rfl
    · have hp' : p = ⟨sparse .undef [(4, (.val .str)), (10, (.val .fs)), (11, (.val (.int .i64))), (12, (.val (.int .i64)))] 0 40, [], []⟩ := (Option.some.inj (hp : some _ = some p)).symm
      subst hp'
      change scPrint_L3 (m + 1) ls R k = some r at h
      have h' := h
      unfold scPrint_L3 at h'
      split at h'
      · exact (scPrint_step3 m _ _ _ _ R k).trans h
      · cases h'
  · cases (List.mem_filter.1 hc).2
  · obtain ⟨y, hy, hx⟩ := bind_inv h
    cases hx
    obtain ⟨l1, rfl⟩ := scPrint_inv hy
    obtain ⟨n, hn⟩ := hok l1 y hy
    exact ⟨n, (scPrint_eq n l1).trans (hn _ _)⟩
def sameA_l4 {R : Type} : Nat → List (List PV) → List (List PV) → Int → (Bool → Option R) → (Unit → Option R) → Option R
  | 0, _, _, _, _, _ => none
  | n + 1, a4, b5, i6, k0, k1 =>
    cond (decide (i6 < (a4.length : Int))) (
      Option.bind (idx a4 i6) fun e7 =>
      if e7.length = 3 then
        Option.bind (subAgg e7 0 3) fun p8 =>
        Option.bind (idx b5 i6) fun e9 =>
        if e9.length = 3 then
          Option.bind (subAgg e9 0 3) fun p10 =>
          Option.bind (PV.asAgg p8) fun cs11 =>
          Option.bind (PV.asAgg p10) fun cs12 =>
          Option.bind (eqvs T [(3, 0), (3, 1), (9, 2)] cs11 cs12) fun b13 =>
          cond (!b13) (
            k0 false) (
            sameA_l4 n a4 b5 (IntKind.i64.wrap (i6 + (1 : Int))) k0 k1)
        else none
      else none) (
      k1 ())
def sameA_b {R : Type} (n : Nat) (a1 : List (List PV)) (b2 : List (List PV)) (k : Bool → Option R) : Option R :=
  cond ((a1.length : Int) != (b2.length : Int)) (
    k false) (
    sameA_l4 n a1 b2 0 k
      (fun (_ : Unit) =>
        k true))
def sameA_E (y : Bool) : PV × List PV := ((PV.bool y), [])
def sameA_D : List PV → Option (Bool)
  | [(PV.fs a1), (PV.fs b2)] => sSameA a1 b2
  | _ => none
def sameA_Γ : List (Nat × Cal) := []
def sameA_C : Ctr := ⟨[none, none], Bool, sameA_D, sameA_E, true, .d⟩
def sameA_cfg : List (Nat × LC) := [(4, ⟨[0, 1, 5], [], [], []⟩),
  (2000004, ⟨[4], [], [], []⟩),
  (1004000, ⟨[], [], [], []⟩)]
def sameA_pat : Nat → Option SP
  | 4 => some ⟨sparse .undef [(0, (.val .fs)), (1, (.val .fs)), (5, (.val (.int .i64)))] 0 26, [], []⟩
  | _ => none
def sameA_patj : Nat → Option SP
  | _ => none
def sameA_L4 (n : Nat) (ls : List Leaf) (R : Type) (k : Ex → St → Option R) : Option R :=
  match ls with
  | [.rows a4, .rows b5, .int i6] => sameA_l4 n a4 b5 i6 (fun y1014 => k .ret ⟨sparse .undef [(4, (TV.val (PV.bool y1014)))] 0 26, [], []⟩)
      (fun _ => k (.exit 0) ⟨sparse .undef [] 0 26, [], []⟩)
  | _ => none
def sameA_L (n key : Nat) (ls : List Leaf) (R : Type) (k : Ex → St → Option R) : Option R :=
  match key with
  | 4 => sameA_L4 n ls R k
  | _ => none
def sameA_J (n key : Nat) (ls : List Leaf) (R : Type) (k : Ex → St → Option R) : Option R :=
  match key with
  | _ => none
def sameA_on : Code → Bool := fun _ => false
def sameA_Λ : Nat → Loops := patL (normBy sameA_cfg) sameA_pat sameA_L (normJ sameA_cfg) sameA_on sameA_patj sameA_J
theorem sameA_step4 (n : Nat) (a4 : List (List PV)) (b5 : List (List PV)) (i6 : Int)  (R : Type) (k : Ex → St → Option R) :
    roundK T G0 (ctrOf sameA_Γ) (normBy sameA_cfg) (sameA_Λ n) (codeAt [1, 1, 0, 1, 0, 0] (bodyOf Tryd.f20)) (buildSt ⟨sparse .undef [(0, (.val .fs)), (1, (.val .fs)), (5, (.val (.int .i64)))] 0 26, [], []⟩ [.rows a4, .rows b5, .int i6]) R k = sameA_L4 (n + 1) [.rows a4, .rows b5, .int i6] R k := by kernel_rfl
theorem sameA_eq (n : Nat) (a1 : List (List PV)) (b2 : List (List PV)) :
    funK T G0 (ctrOf sameA_Γ) (sameA_Λ n) .d true [none, none] (funOf Tryd.f20) [(PV.fs a1), (PV.fs b2)] = sameA_b n  a1 b2 (fun a0 => some (sameA_E a0)) := by kernel_rfl
theorem sameA_inv {ps : List PV} {y : Bool} (h : sameA_D ps = some y) : ∃ (a1 : List (List PV)) (b2 : List (List PV)), ps = [(PV.fs a1), (PV.fs b2)] := by
  unfold sameA_D at h
  split at h
  · exact ⟨_, _, rfl⟩
  · cases h
theorem sameA_loops : loopsOf (bodyOf Tryd.f20) = [codeAt [1, 1, 0, 1, 0, 0] (bodyOf Tryd.f20)] := by kernel_rfl
theorem sameA_holds (hΓ : HoldsAll Tryd.prog G0 sameA_Γ) (hok : ∀ (a1 : List (List PV)) (b2 : List (List PV)) (y : Bool), sSameA a1 b2 = some y → ∃ n, ∀ (R : Type) (k : Bool → Option R), sameA_b n  a1 b2 k = k y) : Holds Tryd.prog G0 20 sameA_C := by
  refine fun_pat mixed tOk (ctrOf_ok hΓ) Tryd.func20 rfl rfl rfl rfl (F := funOf Tryd.f20) (normBy_ok sameA_cfg) (pat := sameA_pat) (L := sameA_L) (normJ_ok sameA_cfg) (on := sameA_on) (patj := sameA_patj) (J := sameA_J) (fun c hc ls R k => ?_) (fun c hc p hp m ls R k r h => ?_) (fun c hc p hp m ls R k r h => ?_) (fun ps x h => ?_)
  · rw [show (funOf Tryd.f20).code = bodyOf Tryd.f20 from rfl, sameA_loops] at hc
    simp only [List.mem_cons, List.not_mem_nil, or_false] at hc
    rcases hc with rfl
    · show sameA_L4 0 ls R k = none
      unfold sameA_L4
      split
      · rfl
      · rfl
  · rw [show (funOf Tryd.f20).code = bodyOf Tryd.f20 from rfl, sameA_loops] at hc
    simp only [List.mem_cons, List.not_mem_nil, or_false] at hc
    rcases hc with rfl
    · have hp' : p = ⟨sparse .undef [(0, (.val .fs)), (1, (.val .fs)), (5, (.val (.int .i64)))] 0 26, [], []⟩ := (Option.some.inj (hp : some _ = some p)).symm
      subst hp'
      change sameA_L4 (m + 1) ls R k = some r at h
      have h' := h
      unfold sameA_L4 at h'
      split at h'
      · exact (sameA_step4 m _ _ _ R k).trans h
      · cases h'
  · cases (List.mem_filter.1 hc).2
  · obtain ⟨y, hy, hx⟩ := bind_inv h
    cases hx
    obtain ⟨a1, b2, rfl⟩ := sameA_inv hy
    obtain ⟨n, hn⟩ := hok a1 b2 y hy
    exact ⟨n, (sameA_eq n a1 b2).trans (hn _ _)⟩
def wakes24_b {R : Type} (k : Bool → Option R) : Option R :=
  Option.bind (sScParse (ByteArray.mk #[])) fun y1 =>
  Option.bind (sScParse (ByteArray.mk #[115, 97, 121, 32, 49, 32, 97, 32, 98, 10])) fun y2 =>
  cond (y1.2 == (0 : Int)) (
    cond ((y1.1.length : Int) == (0 : Int)) (
      cond (y2.2 == (0 : Int)) (
        Option.bind (sSameA y2.1 [[(PV.int .i64 3), (PV.int .i64 1), (PV.str (ByteArray.mk #[97, 32, 98]))]]) fun y3 =>
        k y3) (
        k false)) (
      k false)) (
    k false)
def wakes24_E (y : Bool) : PV × List PV := ((PV.bool y), [])
def wakes24_d : Option (Bool) := wakes24_b fun a0 => some a0
def wakes24_D : List PV → Option (Bool)
  | [] => wakes24_d
  | _ => none
def wakes24_Γ : List (Nat × Cal) := [(18, .ctr scParse_C), (20, .ctr sameA_C)]
def wakes24_C : Ctr := ⟨[], Bool, wakes24_D, wakes24_E, true, .d⟩
theorem wakes24_eq :
    funK T G0 (ctrOf wakes24_Γ) noL .d true [] (funOf Tryd.f21) [] = wakes24_b  (fun a0 => some (wakes24_E a0)) := by kernel_rfl
theorem wakes24_inv {ps : List PV} {y : Bool} (h : wakes24_D ps = some y) : ps = [] := by
  unfold wakes24_D at h
  split at h
  · rfl
  · cases h
theorem wakes24_nat {R : Type} (k : Bool → Option R) : wakes24_b k = Option.bind (wakes24_b fun a0 => some a0) fun y => k y := by
  unfold wakes24_b
  first | rfl | simp only [Option.bind_assoc, bind_cond, bind_ite, Option.bind_some, Option.bind_none]
theorem wakes24_holds (hΓ : HoldsAll Tryd.prog G0 wakes24_Γ) : Holds Tryd.prog G0 21 wakes24_C := by
  refine fun_ok mixed tOk (ctrOf_ok hΓ) Tryd.func21 rfl rfl rfl rfl (F := funOf Tryd.f21) (fun ps x h => ?_)
  obtain ⟨y, hy, hx⟩ := bind_inv h
  cases hx
  obtain rfl := wakes24_inv hy
  have hy' : wakes24_d = some y := hy
  refine ⟨noL, noL_ok _, (wakes24_eq).trans ?_⟩
  unfold wakes24_d at hy'
  rw [wakes24_nat, hy']
  rfl
end
end Go.Proofs.YtkeklbicmfhemaaDoorV
namespace Go.Proofs.YtkeklbicmfhemaaDoorV
open Go
set_option maxRecDepth 20000
set_option linter.unusedSimpArgs false
theorem unA1_inv {e : List PV} {a : Act} (h : unA1 e = some a) : e = [.int .i64 a.1, .int .i64 a.2.1, .str a.2.2] := by
  unfold unA1 at h
  split at h
  · cases h; rfl
  · cases h
theorem unA_inv : ∀ {es : List (List PV)} {l : List Act}, unA es = some l → es = aRow l
  | [], l, h => by cases h; rfl
  | e :: es, l, h => by
    simp only [unA, Option.bind_eq_some_iff] at h
    obtain ⟨a, h1, l', h2, h3⟩ := h
    cases h3
    rw [unA1_inv h1, unA_inv h2]
    rfl
theorem unA_row : ∀ l : List Act, unA (aRow l) = some l
  | [] => rfl
  | a :: l => by
    have := unA_row l
    simp only [aRow, List.map_cons, unA, unA1] at this ⊢
    rw [this]
    rfl
theorem aRow_length (l : List Act) : (aRow l).length = l.length := by simp [aRow]
theorem aRow_append (a b : List Act) : aRow (a ++ b) = aRow a ++ aRow b := by simp [aRow]
theorem idx_aRow (pre : List Act) (a : Act) (rest : List Act) : idx (aRow (pre ++ a :: rest)) (pre.length : Int) = some [.int .i64 a.1, .int .i64 a.2.1, .str a.2.2] := by
  rw [idx_nat, aRow, List.map_append, List.map_cons, List.getElem?_append_right (by simp)]
  simp
theorem eqA (a b : Act) : eqvs T [(3, 0), (3, 1), (9, 2)] [.int .i64 a.1, .int .i64 a.2.1, .str a.2.2] [.int .i64 b.1, .int .i64 b.2.1, .str b.2.2] = some (decide (a = b)) := by
  have h3 : ∀ x y : Int, eqvT T 3 (.int .i64 x) (.int .i64 y) = some (x == y) := fun x y => rfl
  have h9 : ∀ x y : ByteArray, eqvT T 9 (.str x) (.str y) = some (x.toList == y.toList) := fun x y => rfl
  simp only [eqvs, h3, h9, Option.bind_some]
  congr 1
  obtain ⟨a1, a2, a3⟩ := a
  obtain ⟨b1, b2, b3⟩ := b
  rw [Bool.eq_iff_iff]
  simp only [Bool.and_eq_true, beq_iff_eq, decide_eq_true_eq, Prod.mk.injEq, and_true, bytes_toList]
  constructor
  · rintro ⟨rfl, rfl, h⟩; exact ⟨rfl, rfl, bytes_ext h⟩
  · rintro ⟨rfl, rfl, rfl⟩; exact ⟨rfl, rfl, rfl⟩
theorem sameA_rounds {R : Type} {a b : List Act} (ha : a.length ≤ big) (k0 : Bool → Option R) (k1 : Unit → Option R) : ∀ (ra rb pa pb : List Act) (n : Nat), a = pa ++ ra → b = pb ++ rb → pa.length = pb.length → ra.length = rb.length → ra.length < n →
    sameA_l4 n (aRow a) (aRow b) (pa.length : Int) k0 k1 = if ra = rb then k1 () else k0 false
  | [], rb, pa, pb, n, h1, h2, h3, h4, hn => by
    obtain ⟨m, rfl⟩ : ∃ m, n = m + 1 := ⟨n - 1, by omega⟩
    cases rb with
    | cons => simp at h4
    | nil =>
      simp only [List.append_nil] at h1
      subst h1
      unfold sameA_l4
      rw [aRow_length, decide_eq_false (by omega), cond_false, if_pos rfl]
  | x :: ra, rb, pa, pb, n, h1, h2, h3, h4, hn => by
    obtain ⟨m, rfl⟩ : ∃ m, n = m + 1 := ⟨n - 1, by omega⟩
    cases rb with
    | nil => simp at h4
    | cons y rb =>
      have hlen : a.length = pa.length + (ra.length + 1) := by rw [h1]; simp
      unfold big at ha
      unfold sameA_l4
      have i1 : idx (aRow a) (pa.length : Int) = some [.int .i64 x.1, .int .i64 x.2.1, .str x.2.2] := by rw [h1]; exact idx_aRow pa x ra
      have i2 : idx (aRow b) (pa.length : Int) = some [.int .i64 y.1, .int .i64 y.2.1, .str y.2.2] := by rw [h2, h3]; exact idx_aRow pb y rb
      have hs : ∀ z : Act, subAgg [.int .i64 z.1, .int .i64 z.2.1, .str z.2.2] 0 3 = some (.agg [.int .i64 z.1, .int .i64 z.2.1, .str z.2.2]) := fun _ => rfl
      have hg : ∀ z : Act, PV.asAgg (.agg [.int .i64 z.1, .int .i64 z.2.1, .str z.2.2]) = some [.int .i64 z.1, .int .i64 z.2.1, .str z.2.2] := fun _ => rfl
      have hl3 : ∀ z : Act, ([.int .i64 z.1, .int .i64 z.2.1, .str z.2.2] : List PV).length = 3 := fun _ => rfl
      rw [aRow_length, decide_eq_true (by omega), cond_true, i1, i2]
      simp only [Option.bind_some, hl3, if_true, hs, hg, eqA]
      by_cases hxy : x = y
      · subst hxy
        rw [decide_eq_true rfl, Bool.not_true, cond_false, wrapN (by omega) (by omega), show ((pa.length : Int) + 1) = ((pa ++ [x]).length : Int) by simp, sameA_rounds (by unfold big; omega) k0 k1 ra rb (pa ++ [x]) (pb ++ [x]) m (by rw [h1]; simp) (by rw [h2]; simp) (by simp [h3]) (by simpa using h4) (by simp at hn; omega)]
        simp
      · rw [decide_eq_false hxy, Bool.not_false, cond_true, if_neg (by simp [hxy])]
theorem sameA_ok : ∀ (a1 b2 : List (List PV)) (y : Bool), sSameA a1 b2 = some y → ∃ n, ∀ (R : Type) (k : Bool → Option R), sameA_b n a1 b2 k = k y := by
  intro a b y h
  simp only [sSameA, Option.bind_eq_some_iff] at h
  obtain ⟨l, h1, m, h2, h3⟩ := h
  split at h3
  case isFalse => cases h3
  rename_i hl
  cases h3
  rw [unA_inv h1, unA_inv h2]
  refine ⟨l.length + 1, fun R k => ?_⟩
  unfold sameA_b
  rw [aRow_length, aRow_length]
  by_cases hlen : l.length = m.length
  · rw [show (((l.length : Int) != (m.length : Int)) : Bool) = false by simp [hlen], cond_false]
    have := sameA_rounds hl k (fun _ => k true) l m [] [] (l.length + 1) rfl rfl rfl hlen (by omega)
    rw [show ((([] : List Act).length : Nat) : Int) = 0 from rfl] at this
    refine this.trans ?_
    by_cases e : l = m
    · rw [if_pos e, decide_eq_true e]
    · rw [if_neg e, decide_eq_false e]
  · rw [show (((l.length : Int) != (m.length : Int)) : Bool) = true by rw [bne_iff_ne]; omega, cond_true, decide_eq_false (fun e => hlen (by rw [e]))]
theorem sSameA_of {a b : List Act} (ha : a.length ≤ big) : sSameA (aRow a) (aRow b) = some (decide (a = b)) := by
  unfold sSameA
  rw [unA_row, unA_row, Option.bind_some, Option.bind_some, if_pos ha]
theorem scText_ok (k : Int) : scText_d k = some (textK k) := by
  unfold scText_d scText_b textK
  cases h : (k == 3) <;> rfl
theorem cutAt_length (c : UInt8) : ∀ l : List UInt8, (cutAt c l).1.length ≤ l.length ∧ (cutAt c l).2.1.length ≤ l.length
  | [] => by simp [cutAt]
  | b :: l => by
    have := cutAt_length c l
    unfold cutAt
    split
    · simp
    · simp; omega
theorem cutAt_short {c : UInt8} : ∀ {l : List UInt8}, (cutAt c l).2.2 = true → (cutAt c l).2.1.length < l.length
  | [], h => by simp [cutAt] at h
  | b :: l, h => by
    unfold cutAt at h ⊢
    split at h
    · rename_i hb; rw [if_pos hb]; simp
    · rename_i hb
      rw [if_neg hb]
      have := cutAt_short h
      simp
      omega
theorem sCut_one {l : List UInt8} (c : UInt8) (h : l.length ≤ lim) : sCut (text l) (ByteArray.mk #[c]) = some (text (cutAt c l).1, text (cutAt c l).2.1, (cutAt c l).2.2) := by
  unfold sCut
  rw [text_size, if_pos h, text_data, ← cut_one]
theorem scWords_ok : scWords_d = some (sRow (kindWords.map text)) := rfl
theorem scAct_rounds {R : Type} {w r : List UInt8} (is : Bool) (hr : r.length ≤ lim) (k0 : Bool → Int → Int → ByteArray → Option R) (k1 : Int → Int → ByteArray → Option R) : ∀ (rest pre : List (List UInt8)) (n : Nat), kindWords = pre ++ rest → rest.length < n →
    scAct_l3 n (text w) (text r) is 6 (pre.length : Int) 0 0 (text []) (sRow (kindWords.map text)) k0 k1 =
      match (if is = true then kindFrom pre.length rest w else none) with
      | none => k1 0 0 (text [])
      | some j => k0 (actOf j r).2 (actOf j r).1.1 (actOf j r).1.2.1 (actOf j r).1.2.2
  | [], pre, n, hw, hn => by
    obtain ⟨m, rfl⟩ : ∃ m, n = m + 1 := ⟨n - 1, by omega⟩
    simp only [List.append_nil] at hw
    have : pre.length = 6 := by rw [← hw]; rfl
    unfold scAct_l3
    rw [decide_eq_false (by omega), cond_false]
    cases is <;> rfl
  | x :: rest, pre, n, hw, hn => by
    obtain ⟨m, rfl⟩ : ∃ m, n = m + 1 := ⟨n - 1, by omega⟩
    have hlen : pre.length + (rest.length + 1) = 6 := by
      have := congrArg List.length hw
      simp at this
      rw [← this]
      rfl
    have ih := scAct_rounds (w := w) is hr k0 k1 rest (pre ++ [x]) m (by rw [hw]; simp) (by simp at hn; omega)
    have hrl : (sRow (kindWords.map text)).length = 6 := rfl
    have hget : (sRow (kindWords.map text))[Int.toNat (pre.length : Int)]? = some [PV.str (text x)] := by
      rw [hw, Int.toNat_natCast, sRow, List.map_map, List.map_append, List.map_cons, List.getElem?_append_right (by simp)]
      simp
    have e1 : IntKind.i64.wrap ((pre.length : Int) + 1) = (pre.length : Int) + 1 := wrapN (by omega) (by omega)
    have e2 : ((pre.length : Int) + 1) = ((pre ++ [x]).length : Int) := by simp
    unfold scAct_l3
    rw [decide_eq_true (by omega), cond_true, hrl, if_pos (by omega), hget]
    simp only [Option.bind_some, List.getElem?_cons_zero, PV.asS, text_toList, beq_list]
    rw [e1]
    by_cases hx : x = w
    · subst hx
      rw [decide_eq_true rfl, Bool.not_true, cond_false]
      cases is with
      | false =>
        rw [Bool.not_false, cond_true, e2, ih]
        rfl
      | true =>
        have hcl := cutAt_length 32 r
        rw [Bool.not_true, cond_false, sCut_one 32 hr, Option.bind_some, sInt_ok (by omega), Option.bind_some]
        have hk : kindFrom pre.length (x :: rest) x = some pre.length := by simp [kindFrom]
        rw [if_pos rfl, hk]
        simp only [scText_ok, Option.bind_some, meet_self, actOf]
        generalize intV (cutAt 32 r).1 = v
        obtain ⟨v, ok⟩ := v
        cases ok
        · simp
        · by_cases c1 : 0 ≤ v
          · by_cases c2 : v ≤ 9999
            · simp [c1, c2]
            · simp [c1, c2]
          · simp [c1]
    · rw [decide_eq_false hx, Bool.not_false, cond_true, e2, ih]
      have hk : kindFrom pre.length (x :: rest) w = kindFrom (pre ++ [x]).length rest w := by rw [kindFrom, if_neg hx]; simp
      rw [hk]
theorem scAct_ok : ∀ (line1 : ByteArray) (y : Int × Int × ByteArray × Bool), sScAct line1 = some y → ∃ n, ∀ (R : Type) (k : Int → Int → ByteArray → Bool → Option R), scAct_b n line1 k = k y.1 y.2.1 y.2.2.1 y.2.2.2 := by
  intro s y h
  unfold sScAct at h
  split at h
  case isFalse => cases h
  rename_i hs
  cases h
  obtain ⟨l, rfl⟩ : ∃ l, s = text l := ⟨_, (text_of s).symm⟩
  rw [text_size] at hs
  have hcl := cutAt_length 32 l
  refine ⟨10, fun R k => ?_⟩
  unfold scAct_b
  rw [sCut_one 32 hs, Option.bind_some, scWords_ok, Option.bind_some, text_data, show ByteArray.mk #[] = text [] from rfl]
  have := scAct_rounds (w := (cutAt 32 l).1) (r := (cutAt 32 l).2.1) (cutAt 32 l).2.2 (by omega) (fun b i j s => k i j s b) (fun _ _ _ => k 0 0 (text []) false) kindWords [] 10 rfl (by decide)
  refine this.trans ?_
  unfold actV
  rw [List.length_nil]
  cases hm : (if (cutAt 32 l).2.2 = true then kindFrom 0 kindWords (cutAt 32 l).1 else none) with
  | none => rfl
  | some j => rfl
theorem parse_rounds {R : Type} (k0 : List (List PV) → Option R) (k1 : Int → Option R) : ∀ (n : Nat) (l : List UInt8) (acc : List Act), l.length < n → acc.length + l.length ≤ lim + 1 → l.length ≤ lim →
    scParse_l2 n (text l) (aRow acc) k1 k0 = match parseF n l acc with | some a => k0 (aRow a) | none => k1 2
  | 0, l, acc, hn, _, _ => by omega
  | n + 1, l, acc, hn, hb, hl => by
    unfold scParse_l2 parseF
    rw [mk_nil, text_toList, text_toList]
    by_cases h0 : l = []
    · subst h0
      rw [beq_self_eq_true, Bool.not_true, cond_false, if_pos rfl]
    · have hne : (l == []) = false := by rw [beq_list]; exact decide_eq_false h0
      have hcl := cutAt_length 10 l
      have hact : sScAct (text (cutAt 10 l).1) = some ((actV (cutAt 10 l).1).1.1, (actV (cutAt 10 l).1).1.2.1, (actV (cutAt 10 l).1).1.2.2, (actV (cutAt 10 l).1).2) := by
        unfold sScAct
        rw [text_size, if_pos (by omega), text_data]
      rw [hne, Bool.not_false, cond_true, if_neg h0, sCut_one 10 hl, Option.bind_some, hact, Option.bind_some]
      cases hc : (cutAt 10 l).2.2 with
      | false => rw [Bool.not_false, cond_true, if_neg (by simp)]
      | true =>
        cases ha : (actV (cutAt 10 l).1).2 with
        | false => rw [Bool.not_true, cond_false, Bool.not_false, cond_true, if_neg (by simp)]
        | true =>
          have hsh : (cutAt 10 l).2.1.length < l.length := cutAt_short hc
          have hrow : aRow acc ++ [[PV.int .i64 (actV (cutAt 10 l).1).1.1, PV.int .i64 (actV (cutAt 10 l).1).1.2.1, PV.str (actV (cutAt 10 l).1).1.2.2]] = aRow (acc ++ [(actV (cutAt 10 l).1).1]) := by rw [aRow_append]; rfl
          rw [Bool.not_true, cond_false, cond_false, if_pos (by rw [aRow_length]; unfold maxBytes; unfold lim at hb hl; simp; omega), if_pos ⟨rfl, rfl⟩, hrow, parse_rounds k0 k1 n _ _ (by omega) (by simp; omega) (by omega)]
theorem scParse_ok : ∀ (text1 : ByteArray) (y : List (List PV) × Int), sScParse text1 = some y → ∃ n, ∀ (R : Type) (k : List (List PV) → Int → Option R), scParse_b n text1 k = k y.1 y.2 := by
  intro s y h
  unfold sScParse at h
  split at h
  case isFalse => cases h
  rename_i hs
  cases h
  obtain ⟨l, rfl⟩ : ∃ l, s = text l := ⟨_, (text_of s).symm⟩
  rw [text_size] at hs
  refine ⟨l.length + 1, fun R k => ?_⟩
  unfold scParse_b
  rw [text_data]
  have := parse_rounds (R := R) (fun es => k es 0) (fun i => k [] i) (l.length + 1) l [] (by omega) (by simp; omega) hs
  refine this.trans ?_
  unfold parseR parseV
  cases parseF (l.length + 1) l [] <;> rfl
theorem noMem_aRow : ∀ l : List Act, noMemEs (aRow l) = true
  | [] => rfl
  | a :: l => by
    have := noMem_aRow l
    simp [aRow, noMemEs, noMemL, noMem] at this ⊢
    exact this
theorem scParse_no : ∀ (text1 : ByteArray) (y : List (List PV) × Int), sScParse text1 = some y → (noMem (scParse_E y).1 && noMemL (scParse_E y).2) = true := by
  intro s y h
  unfold sScParse at h
  split at h
  case isFalse => cases h
  cases h
  unfold parseR
  split <;> simp [scParse_E, noMem, noMemL, noMem_aRow, noMemEs]
end Go.Proofs.YtkeklbicmfhemaaDoorV
namespace Go.Proofs.YtkeklbicmfhemaaDoorV
open Go
set_option maxRecDepth 20000
set_option linter.unusedSimpArgs false
theorem kindWords_short : ∀ w ∈ kindWords, w.length ≤ 5 := by decide
theorem lineV_in {a1 a2 : Int} {a3 : ByteArray} (h : 1 ≤ a1 ∧ a1 ≤ 6) : lineV (a1, a2, a3) = (kindWords.getD (a1 - 1).toNat []) ++ 32 :: dig a2 ++ (if textK a1 = true then 32 :: a3.data.toList else []) := if_pos h
theorem kind_at {j : Nat} (h : j < 6) : (sRow (kindWords.map text))[j]? = some [PV.str (text (kindWords.getD j []))] ∧ (kindWords.getD j []).length ≤ 5 := by
  have hl : j < kindWords.length := h
  have e : kindWords.getD j [] = kindWords[j] := by rw [List.getD_eq_getElem?_getD, List.getElem?_eq_getElem hl]; rfl
  rw [e]
  refine ⟨?_, kindWords_short _ (List.getElem_mem hl)⟩
  simp only [sRow, List.map_map, List.getElem?_map, List.getElem?_eq_getElem hl, Option.map_some]
  rfl
theorem sScLine_in {a1 a2 : Int} {a3 : ByteArray} (h2 : inI a2 = true) (h3 : a3.size ≤ 2 * mega) : sScLine a1 a2 a3 = some (text (lineV (a1, a2, a3))) := if_pos ⟨h2, h3⟩
theorem scLine_ok : ∀ (a1 a2 : Int) (a3 : ByteArray) (y : ByteArray), sScLine a1 a2 a3 = some y → ∀ (R : Type) (k : ByteArray → Option R), scLine_b a1 a2 a3 k = k y := by
  intro a1 a2 a3 y h R k
  unfold sScLine at h
  split at h
  case isFalse => cases h
  rename_i hh
  cases h
  obtain ⟨h2, h3⟩ := hh
  unfold scLine_b
  by_cases c1 : a1 < 1
  · rw [decide_eq_true c1, cond_true]
    unfold lineV
    rw [if_neg (by simp only; omega)]
    rfl
  rw [decide_eq_false c1, cond_false]
  by_cases c2 : a1 > 6
  · rw [decide_eq_true c2, cond_true]
    unfold lineV
    rw [if_neg (by simp only; omega)]
    rfl
  rw [decide_eq_false c2, cond_false, lineV_in (by omega)]
  have hw : IntKind.i64.wrap (a1 - 1) = a1 - 1 := wrapN (by omega) (by omega)
  obtain ⟨hget, hwl⟩ := kind_at (j := Int.toNat (a1 - 1)) (by omega)
  generalize kindWords.getD (a1 - 1).toNat [] = w at hget hwl
  have hl : ((sRow (kindWords.map text)).length : Int) = 6 := rfl
  have hin : 0 ≤ a1 - 1 ∧ a1 - 1 < 6 := by omega
  have hd := dig_length h2
  unfold mega at h3
  have hs3 : (ByteArray.mk #[32]).size = 1 := rfl
  have p1 : (text w).size + (ByteArray.mk #[32]).size ≤ 140737488355328 := by rw [text_size, hs3]; omega
  have q1 : (text w ++ ByteArray.mk #[32]).size = w.length + 1 := by rw [ByteArray.size_append, text_size, hs3]
  have p2 : (text w ++ ByteArray.mk #[32]).size + (text (dig a2)).size ≤ 140737488355328 := by rw [q1, text_size]; omega
  have q2 : ((text w ++ ByteArray.mk #[32]) ++ text (dig a2)).size = w.length + 1 + (dig a2).length := by rw [ByteArray.size_append, q1, text_size]
  have p3 : ((text w ++ ByteArray.mk #[32]) ++ text (dig a2)).size + (ByteArray.mk #[32]).size ≤ 140737488355328 := by rw [q2, hs3]; omega
  have p4 : (((text w ++ ByteArray.mk #[32]) ++ text (dig a2)) ++ ByteArray.mk #[32]).size + a3.size ≤ 140737488355328 := by rw [ByteArray.size_append, q2, hs3]; omega
  have e0 : ∀ s : ByteArray, ([PV.str s] : List PV)[0]? = some (PV.str s) := fun _ => rfl
  have eS : ∀ s : ByteArray, PV.asS (PV.str s) = some s := fun _ => rfl
  simp only [scWords_ok, Option.bind_some, hw, hl, hget, e0, eS, digits_ok h2, scText_ok, and_self, hin.1, hin.2, p1, p2, p3, p4, if_true, meet_self]
  have e3 : text a3.data.toList = a3 := text_of a3
  cases textK a1 with
  | true =>
    rw [cond_true, if_pos rfl]
    congr 1
    conv => lhs; rw [← e3]
    rw [show ByteArray.mk #[32] = text [32] from rfl]
    simp only [text_append, List.append_assoc, List.singleton_append, List.cons_append, List.nil_append]
  | false =>
    rw [cond_false, if_neg (by simp)]
    congr 1
    rw [show ByteArray.mk #[32] = text [32] from rfl]
    simp only [text_append, List.append_assoc, List.singleton_append, List.append_nil, List.cons_append, List.nil_append]
theorem lineV_length {a : Act} (h : okA a = true) : (lineV a).length ≤ 2 * mega + 40 := by
  obtain ⟨a1, a2, a3⟩ := a
  simp only [okA, Bool.and_eq_true, decide_eq_true_eq] at h
  obtain ⟨h1, h2, h3⟩ := h
  have hd := dig_length h2
  by_cases hk : 1 ≤ a1 ∧ a1 ≤ 6
  · obtain ⟨_, hwl⟩ := kind_at (j := Int.toNat (a1 - 1)) (by omega)
    rw [lineV_in hk]
    have hsz := size_data a3
    split
    · simp only [List.length_append, List.length_cons]; omega
    · simp only [List.length_append, List.length_cons, List.length_nil]; omega
  · unfold lineV
    rw [if_neg (by simpa using hk)]
    simp
theorem sContains_one {l : List UInt8} (c : UInt8) (h : l.length ≤ lim) : sContains (text l) (ByteArray.mk #[c]) = some (l.contains c) := by
  unfold sContains
  rw [text_size, if_pos h, text_data]
  exact congrArg some (contains_one c l)
theorem print_rounds {R : Type} {l : List Act} (hl : l.length ≤ 1000) (hk : l.all okA = true) (k0 : ByteArray → Int → Option R) (k1 : ByteArray → Option R) : ∀ (rest pre : List Act) (out : List UInt8) (n : Nat), l = pre ++ rest → rest.length < n → out.length ≤ pre.length * 2097300 →
    scPrint_l3 n (text out) (aRow l) (l.length : Int) (pre.length : Int) k0 k1 = match printF rest out with | some o => k1 (text o) | none => k0 (text []) 1
  | [], pre, out, n, hw, hn, _ => by
    obtain ⟨m, rfl⟩ : ∃ m, n = m + 1 := ⟨n - 1, by omega⟩
    simp only [List.append_nil] at hw
    subst hw
    unfold scPrint_l3 printF
    rw [decide_eq_false (by omega), cond_false]
  | x :: rest, pre, out, n, hw, hn, ho => by
    obtain ⟨m, rfl⟩ : ∃ m, n = m + 1 := ⟨n - 1, by omega⟩
    have hlen : l.length = pre.length + (rest.length + 1) := by rw [hw]; simp
    have hx : okA x = true := List.all_eq_true.1 hk x (by rw [hw]; simp)
    have hx' := hx
    simp only [okA, Bool.and_eq_true, decide_eq_true_eq] at hx'
    have hll := lineV_length hx
    unfold mega at hll
    have hidx : idx (aRow l) (pre.length : Int) = some [.int .i64 x.1, .int .i64 x.2.1, .str x.2.2] := by rw [hw]; exact idx_aRow pre x rest
    have hline : scLine_D [PV.agg [.int .i64 x.1, .int .i64 x.2.1, .str x.2.2]] = some (text (lineV x)) := sScLine_in hx'.2.1 hx'.2.2
    have hact : sScAct (text (lineV x)) = some ((actV (lineV x)).1.1, (actV (lineV x)).1.2.1, (actV (lineV x)).1.2.2, (actV (lineV x)).2) := by
      unfold sScAct
      rw [text_size, if_pos (by unfold lim; omega), text_data]
    have hsub : subAgg [.int .i64 x.1, .int .i64 x.2.1, .str x.2.2] 0 3 = some (.agg [.int .i64 x.1, .int .i64 x.2.1, .str x.2.2]) := rfl
    have hagg : PV.isAgg (.agg [.int .i64 x.1, .int .i64 x.2.1, .str x.2.2]) 3 = true := rfl
    have hg : PV.asAgg (.agg [.int .i64 x.1, .int .i64 x.2.1, .str x.2.2]) = some [.int .i64 x.1, .int .i64 x.2.1, .str x.2.2] := rfl
    have hl3 : ([.int .i64 x.1, .int .i64 x.2.1, .str x.2.2] : List PV).length = 3 := rfl
    unfold scPrint_l3 printF
    rw [decide_eq_true (by omega), cond_true, hidx]
    simp only [Option.bind_some, hl3, if_true, hsub, hagg, hline, hact, hg, eqA]
    unfold goodA
    generalize actV (lineV x) = v
    obtain ⟨v, ok⟩ := v
    cases ok with
    | false => rw [Bool.not_false, cond_true, if_neg (by simp)]; rfl
    | true =>
      rw [Bool.not_true, cond_false]
      by_cases hv : v = x
      · rw [decide_eq_true hv, Bool.not_true, cond_false, sContains_one 10 (by unfold lim; omega), Option.bind_some]
        cases hc : (lineV x).contains 10 with
        | true => rw [cond_true, if_neg (by simp)]; rfl
        | false =>
          rw [cond_false, show ByteArray.mk #[10] = text [10] from rfl, text_append, text_append, text_size, text_size, text_size, text_size]
          rw [if_pos (by omega), if_pos (by simp; omega), if_pos (by simp), wrapN (by omega) (by omega), show ((pre.length : Int) + 1) = ((pre ++ [x]).length : Int) by simp]
          exact print_rounds hl hk k0 k1 rest (pre ++ [x]) _ m (by rw [hw]; simp) (by simp at hn; omega) (by simp; omega)
      · rw [decide_eq_false hv, Bool.not_false, cond_true, if_neg (by simp)]; rfl
theorem scPrint_ok : ∀ (l1 : List (List PV)) (y : ByteArray × Int), sScPrint l1 = some y → ∃ n, ∀ (R : Type) (k : ByteArray → Int → Option R), scPrint_b n l1 k = k y.1 y.2 := by
  intro es y h
  simp only [sScPrint, Option.bind_eq_some_iff] at h
  obtain ⟨l, h1, h2⟩ := h
  split at h2
  case isFalse => cases h2
  rename_i hh
  cases h2
  rw [unA_inv h1]
  refine ⟨l.length + 1, fun R k => ?_⟩
  unfold scPrint_b
  rw [aRow_length]
  have := print_rounds (R := R) hh.1 hh.2 k (fun o => k o 0) l [] [] (l.length + 1) rfl (by omega) (by simp)
  refine this.trans ?_
  unfold printR
  cases printF l [] <;> rfl
theorem sScParse_text {l : List UInt8} (h : l.length ≤ lim) : sScParse (text l) = some (parseR l) := by
  unfold sScParse
  rw [text_size, if_pos h, text_data]
theorem sScParse_at {l : List UInt8} (h : l.length ≤ lim) : sScParse (ByteArray.mk l.toArray) = some (parseR l) := sScParse_text h
theorem sScPrint_of {l : List Act} (h1 : l.length ≤ 1000) (h2 : l.all okA = true) : sScPrint (aRow l) = some (printR l) := by
  unfold sScPrint
  rw [unA_row, Option.bind_some, if_pos ⟨h1, h2⟩]
theorem wakes24_ok : wakes24_d = some true := by
  unfold wakes24_d wakes24_b
  rw [sScParse_at (l := []) (by decide), sScParse_at (l := [115, 97, 121, 32, 49, 32, 97, 32, 98, 10]) (by decide)]
  rw [show parseR [] = ([], 0) from rfl, show parseR [115, 97, 121, 32, 49, 32, 97, 32, 98, 10] = (aRow [(3, 1, text [97, 32, 98])], 0) from rfl]
  simp only [Option.bind_some]
  rw [show ([[PV.int .i64 3, PV.int .i64 1, PV.str (ByteArray.mk #[97, 32, 98])]] : List (List PV)) = aRow [(3, 1, text [97, 32, 98])] from rfl, sSameA_of (by decide), decide_eq_true rfl]
  rfl
end Go.Proofs.YtkeklbicmfhemaaDoorV
namespace Go.Proofs.YtkeklbicmfhemaaDoorV
open Go
set_option maxRecDepth 100000
theorem scWords_all : Holds Tryd.prog G0 64 scWords_C := scWords_holds trivial
theorem scText_all : Holds Tryd.prog G0 65 scText_C := scText_holds trivial
theorem scAct_all : Holds Tryd.prog G0 40 scAct_C := scAct_holds (by simp only [scAct_Γ, HoldsAll, CalOk]; exact ⟨cutS_all, scWords_all, sInt_all, scText_all, trivial⟩) scAct_ok
theorem scParse_all : Holds Tryd.prog G0 18 scParse_C := scParse_holds (by simp only [scParse_Γ, HoldsAll, CalOk]; exact ⟨cutS_all, scAct_all, trivial⟩) scParse_ok scParse_no
theorem scLine_all : Holds Tryd.prog G0 41 scLine_C := scLine_holds (by simp only [scLine_Γ, HoldsAll, CalOk]; exact ⟨scWords_all, digits_all, scText_all, trivial⟩) scLine_ok
theorem scPrint_all : Holds Tryd.prog G0 19 scPrint_C := scPrint_holds (by simp only [scPrint_Γ, HoldsAll, CalOk]; exact ⟨scLine_all, scAct_all, containsS_all, trivial⟩) scPrint_ok
theorem sameA_all : Holds Tryd.prog G0 20 sameA_C := sameA_holds trivial sameA_ok
theorem wakes24_all : Holds Tryd.prog G0 21 wakes24_C := wakes24_holds (by simp only [wakes24_Γ, HoldsAll, CalOk]; exact ⟨scParse_all, sameA_all, trivial⟩)
end Go.Proofs.YtkeklbicmfhemaaDoorV
namespace Go.Proofs.YtkeklbicmfhemaaDoorV
open Go
abbrev Car := Int × Int × Int
abbrev Stp := Int × Int × Int × Int
structure Inst where
  cars : List Car
  stops : List Stp
  pairs : List (Int × Int)
  travel : List (List Int)
def carRow (l : List Car) : List (List PV) := l.map fun c => [.int .i64 c.1, .int .i64 c.2.1, .int .i64 c.2.2]
def stpRow (l : List Stp) : List (List PV) := l.map fun c => [.int .i64 c.1, .int .i64 c.2.1, .int .i64 c.2.2.1, .int .i64 c.2.2.2]
def prRow (l : List (Int × Int)) : List (List PV) := l.map fun c => [.int .i64 c.1, .int .i64 c.2]
def trRow (l : List (List Int)) : List (List PV) := l.map fun r => [.fs (iRow r)]
def unCar1 : List PV → Option Car | [.int .i64 a, .int .i64 b, .int .i64 c] => if inI a = true ∧ inI b = true ∧ inI c = true then some (a, b, c) else none | _ => none
def unCar : List (List PV) → Option (List Car) | [] => some [] | e :: es => (unCar1 e).bind fun a => (unCar es).bind fun l => some (a :: l)
def unStp1 : List PV → Option Stp | [.int .i64 a, .int .i64 b, .int .i64 c, .int .i64 d] => if inI a = true ∧ inI b = true ∧ inI c = true ∧ inI d = true then some (a, b, c, d) else none | _ => none
def unStp : List (List PV) → Option (List Stp) | [] => some [] | e :: es => (unStp1 e).bind fun a => (unStp es).bind fun l => some (a :: l)
def unPr1 : List PV → Option (Int × Int) | [.int .i64 a, .int .i64 b] => if inI a = true ∧ inI b = true then some (a, b) else none | _ => none
def unPr : List (List PV) → Option (List (Int × Int)) | [] => some [] | e :: es => (unPr1 e).bind fun a => (unPr es).bind fun l => some (a :: l)
def unTr1 : List PV → Option (List Int) | [.fs r] => unI r | _ => none
def unTr : List (List PV) → Option (List (List Int)) | [] => some [] | e :: es => (unTr1 e).bind fun a => (unTr es).bind fun l => some (a :: l)
def unInst (a b c d : List (List PV)) : Option Inst := (unCar a).bind fun cars => (unStp b).bind fun stops => (unPr c).bind fun pairs => (unTr d).bind fun travel => some ⟨cars, stops, pairs, travel⟩
def w64 (n : Int) : Int := IntKind.i64.wrap n
def numV (l : List Int) (k : Nat) : Int := if l = [] then w64 ((k : Int) * 7) else w64 (w64 (Int.tdiv (l.getD (k % l.length) 0) (w64 (1 + w64 ((k / l.length : Nat) : Int)))) + w64 ((k / l.length : Nat) : Int))
def wn (n : Int) (m : Nat) : Int := n % (m : Int)
def carAt (l : List Int) (k : Nat) : Car := let n := numV l (1 + k); ([20, 60, 9, 30].getD (wn n 4).toNat 0, wn (w64 (Int.tdiv n 4)) 9, [1000, 200, 90, 60].getD (wn (w64 (Int.tdiv n 36)) 4).toNat 0)
def carsOf (l : List Int) : List Car := (List.range (1 + (wn (numV l 0) 3).toNat)).map (carAt l)
def sizeOf' (l : List Int) : Nat := 2 + (wn (numV l 4) 7).toNat
def stopAt (l : List Int) (k : Nat) : Stp :=
  let n := numV l (5 + k)
  let o := wn (w64 (Int.tdiv n 8)) 30
  let c := o + [900, 60, 25, 8].getD (wn (w64 (Int.tdiv n 7)) 4).toNat 0
  (if wn n 9 = 8 then -1 - wn (w64 (Int.tdiv n 9)) 4 else wn n 8, o, (if 1000 < c then 1000 else c), wn (w64 (Int.tdiv n 240)) 6)
def stopsOf (l : List Int) : List Stp := (List.range (sizeOf' l)).map (stopAt l)
def setDemand (s : List Stp) (j : Nat) (d : Int) : List Stp := s.set j (d, (s.getD j (0, 0, 0, 0)).2)
def pairOf (l : List Int) (k : Nat) : Nat × Nat := if wn (numV l (15 + k)) 2 = 1 then (2 * k + 2, 2 * k + 1) else (2 * k + 1, 2 * k + 2)
def pairStep (l : List Int) (k : Nat) (s : List Stp) : List Stp := let d := wn (numV l (16 + k)) 9; setDemand (setDemand s ((pairOf l k).1 - 1) d) ((pairOf l k).2 - 1) (-d)
def pairsFrom (l : List Int) (size : Nat) : Nat → Nat → List Stp → List (Int × Int) → List Stp × List (Int × Int)
  | 0, _, s, p => (s, p)
  | f + 1, k, s, p => if k < (wn (numV l 14) 3).toNat ∧ 2 * k + 2 ≤ size then pairsFrom l size f (k + 1) (pairStep l k s) (p ++ [(((pairOf l k).1 : Int), ((pairOf l k).2 : Int))]) else (s, p)
def tripAt (l : List Int) (a b : Nat) : Int := if a = b then 0 else 1 + wn (numV l (20 + 3 * a + 5 * b)) 14
def travelOf (l : List Int) : List (List Int) := (List.range (sizeOf' l + 1)).map fun a => (List.range (sizeOf' l + 1)).map (tripAt l a)
def instOf (l : List Int) : Inst :=
  let sp := pairsFrom l (sizeOf' l) 4 0 (stopsOf l) []
  ⟨carsOf l, sp.1, sp.2, travelOf l⟩
def sPInst (l : List (List PV)) : Option (List (List PV) × List (List PV) × List (List PV) × List (List PV)) := (unI l).bind fun l => if l.length ≤ big then some (carRow (instOf l).cars, stpRow (instOf l).stops, prRow (instOf l).pairs, trRow (instOf l).travel) else none
end Go.Proofs.YtkeklbicmfhemaaDoorV
namespace Go.Proofs.YtkeklbicmfhemaaDoorV
open Go
set_option maxRecDepth 100000
set_option linter.unusedVariables false
set_option linter.unusedSimpArgs false
noncomputable section
def pNum_b {R : Type} (l1 : List (List PV)) (k2 : Int) (k : Int → Option R) : Option R :=
  cond ((l1.length : Int) == (0 : Int)) (
    k (IntKind.i64.wrap (k2 * (7 : Int)))) (
    if (l1.length : Int) = 0 then none else
    Option.bind (idx l1 (Int.tmod k2 (l1.length : Int))) fun e3 =>
    if e3.length = 1 then
      Option.bind (e3[0]?) fun c4 =>
      Option.bind (PV.asI .i64 c4) fun n5 =>
      if (l1.length : Int) = 0 then none else
      if (IntKind.i64.wrap ((1 : Int) + (IntKind.i64.wrap (Int.tdiv k2 (l1.length : Int))))) = 0 then none else
      if (l1.length : Int) = 0 then none else
      k (IntKind.i64.wrap ((IntKind.i64.wrap (Int.tdiv n5 (IntKind.i64.wrap ((1 : Int) + (IntKind.i64.wrap (Int.tdiv k2 (l1.length : Int))))))) + (IntKind.i64.wrap (Int.tdiv k2 (l1.length : Int)))))
    else none)
def pNum_E (y : Int) : PV × List PV := ((PV.int .i64 y), [])
def pNum_d (l1 : List (List PV)) (k2 : Int) : Option (Int) := pNum_b l1 k2 fun a0 => some a0
def pNum_D : List PV → Option (Int)
  | [(PV.fs l1), (PV.int .i64 k2)] => pNum_d l1 k2
  | _ => none
def pNum_Γ : List (Nat × Cal) := []
def pNum_C : Ctr := ⟨[none, none], Int, pNum_D, pNum_E, true, .d⟩
theorem pNum_eq (l1 : List (List PV)) (k2 : Int) :
    funK T G0 (ctrOf pNum_Γ) noL .d true [none, none] (funOf Tryd.f43) [(PV.fs l1), (PV.int .i64 k2)] = pNum_b  l1 k2 (fun a0 => some (pNum_E a0)) := by kernel_rfl
theorem pNum_inv {ps : List PV} {y : Int} (h : pNum_D ps = some y) : ∃ (l1 : List (List PV)) (k2 : Int), ps = [(PV.fs l1), (PV.int .i64 k2)] := by
  unfold pNum_D at h
  split at h
  · exact ⟨_, _, rfl⟩
  · cases h
theorem pNum_nat {R : Type} (l1 : List (List PV)) (k2 : Int) (k : Int → Option R) : pNum_b l1 k2 k = Option.bind (pNum_b l1 k2 fun a0 => some a0) fun y => k y := by
  unfold pNum_b
  first | rfl | simp only [Option.bind_assoc, bind_cond, bind_ite, Option.bind_some, Option.bind_none]
theorem pNum_holds (hΓ : HoldsAll Tryd.prog G0 pNum_Γ) : Holds Tryd.prog G0 43 pNum_C := by
  refine fun_ok mixed tOk (ctrOf_ok hΓ) Tryd.func43 rfl rfl rfl rfl (F := funOf Tryd.f43) (fun ps x h => ?_)
  obtain ⟨y, hy, hx⟩ := bind_inv h
  cases hx
  obtain ⟨l1, k2, rfl⟩ := pNum_inv hy
  have hy' : pNum_d l1 k2 = some y := hy
  refine ⟨noL, noL_ok _, (pNum_eq l1 k2).trans ?_⟩
  unfold pNum_d at hy'
  rw [pNum_nat, hy']
  rfl
def pInst_l32 {R : Type} : Nat → List (List PV) → Int → Int → Int → List (List PV) → List (List PV) → List (List PV) → List (List PV) → List (List PV) → (List (List PV) → Int → Int → List (List PV) → List (List PV) → List (List PV) → List (List PV) → List (List PV) → Option R) → Option R
  | 0, _, _, _, _, _, _, _, _, _, _ => none
  | n + 1, l255, size256, a257, b258, es259, es260, es261, es262, es263, k0 =>
    cond (decide (b258 ≤ size256)) (
      Option.bind (pNum_d l255 (IntKind.i64.wrap ((IntKind.i64.wrap ((20 : Int) + (IntKind.i64.wrap ((3 : Int) * a257)))) + (IntKind.i64.wrap ((5 : Int) * b258))))) fun y264 =>
      Option.bind (within_d y264 14) fun y265 =>
      cond (a257 == b258) (
        if (es263.length + ([[(PV.int .i64 0)]] : List (List PV)).length) * 8 ≤ maxBytes then
          pInst_l32 n l255 size256 a257 (IntKind.i64.wrap (b258 + (1 : Int))) es259 es260 es261 es262 (es263 ++ [[(PV.int .i64 0)]]) k0
        else none) (
        if (es263.length + ([[(PV.int .i64 (IntKind.i64.wrap ((1 : Int) + y265)))]] : List (List PV)).length) * 8 ≤ maxBytes then
          pInst_l32 n l255 size256 a257 (IntKind.i64.wrap (b258 + (1 : Int))) es259 es260 es261 es262 (es263 ++ [[(PV.int .i64 (IntKind.i64.wrap ((1 : Int) + y265)))]]) k0
        else none)) (
      k0 l255 size256 a257 es259 es260 es261 es262 es263)
def pInst_q27 {R : Type} (n : Nat) (l318 : List (List PV)) (size319 : Int) (k320 : Int) (a321 : Int) (b322 : Int) (es323 : List (List PV)) (es324 : List (List PV)) (es325 : List (List PV)) (k0 : List (List PV) → Int → Int → List (List PV) → List (List PV) → List (List PV) → Option R) : Option R :=
  if (es325.length + ([[(PV.int .i64 a321), (PV.int .i64 b322)]] : List (List PV)).length) * 16 ≤ maxBytes then
    k0 l318 size319 k320 es323 es324 (es325 ++ [[(PV.int .i64 a321), (PV.int .i64 b322)]])
  else none
def pInst_q16 {R : Type} (n : Nat) (l266 : List (List PV)) (size267 : Int) (k268 : Int) (n269 : Int) (es270 : List (List PV)) (es271 : List (List PV)) (i272 : Int) (i273 : Int) (i274 : Int) (i275 : Int) (k0 : List (List PV) → Int → Int → List (List PV) → List (List PV) → Option R) : Option R :=
  Option.bind (within_d n269 9) fun y276 =>
  cond (y276 == (8 : Int)) (
    Option.bind (within_d (IntKind.i64.wrap (Int.tdiv n269 (9 : Int))) 4) fun y277 =>
    if (es271.length + ([[(PV.int .i64 (IntKind.i64.wrap ((-1 : Int) - y277))), (PV.int .i64 i273), (PV.int .i64 i274), (PV.int .i64 i275)]] : List (List PV)).length) * 32 ≤ maxBytes then
      k0 l266 size267 k268 es270 (es271 ++ [[(PV.int .i64 (IntKind.i64.wrap ((-1 : Int) - y277))), (PV.int .i64 i273), (PV.int .i64 i274), (PV.int .i64 i275)]])
    else none) (
    if (es271.length + ([[(PV.int .i64 i272), (PV.int .i64 i273), (PV.int .i64 i274), (PV.int .i64 i275)]] : List (List PV)).length) * 32 ≤ maxBytes then
      k0 l266 size267 k268 es270 (es271 ++ [[(PV.int .i64 i272), (PV.int .i64 i273), (PV.int .i64 i274), (PV.int .i64 i275)]])
    else none)
def pInst_q25 {R : Type} (n : Nat) (l278 : List (List PV)) (size279 : Int) (k280 : Int) (a281 : Int) (b282 : Int) (es283 : List (List PV)) (es284 : List (List PV)) (es285 : List (List PV)) (k0 : List (List PV) → Int → Int → List (List PV) → List (List PV) → List (List PV) → Option R) : Option R :=
  Option.bind (pNum_d l278 (IntKind.i64.wrap ((16 : Int) + k280))) fun y286 =>
  Option.bind (within_d y286 9) fun y287 =>
  meet (
    if 0 ≤ (IntKind.i64.wrap (a281 - (1 : Int))) ∧ (IntKind.i64.wrap (a281 - (1 : Int))) < (es284.length : Int) then
      meet (
        Option.bind (es284[(Int.toNat (IntKind.i64.wrap (a281 - (1 : Int))))]?) fun e288 =>
        Option.bind (e288[0]?) fun c289 =>
        if 0 ≤ (IntKind.i64.wrap (b282 - (1 : Int))) ∧ (IntKind.i64.wrap (b282 - (1 : Int))) < ((List.set es284 (Int.toNat (IntKind.i64.wrap (a281 - (1 : Int)))) (List.set e288 0 (PV.int .i64 y287))).length : Int) then
          Option.bind ((List.set es284 (Int.toNat (IntKind.i64.wrap (a281 - (1 : Int)))) (List.set e288 0 (PV.int .i64 y287)))[(Int.toNat (IntKind.i64.wrap (b282 - (1 : Int))))]?) fun e290 =>
          Option.bind (e290[0]?) fun c291 =>
          pInst_q27 n l278 size279 k280 a281 b282 es283 (List.set (List.set es284 (Int.toNat (IntKind.i64.wrap (a281 - (1 : Int)))) (List.set e288 0 (PV.int .i64 y287))) (Int.toNat (IntKind.i64.wrap (b282 - (1 : Int)))) (List.set e290 0 (PV.int .i64 (IntKind.i64.wrap (0 - y287))))) es285 k0
        else none) (
        Option.bind (es284[(Int.toNat (IntKind.i64.wrap (a281 - (1 : Int))))]?) fun e298 =>
        Option.bind (e298[0]?) fun c299 =>
        if 0 ≤ (IntKind.i64.wrap (b282 - (1 : Int))) ∧ (IntKind.i64.wrap (b282 - (1 : Int))) < ((List.set es284 (Int.toNat (IntKind.i64.wrap (a281 - (1 : Int)))) (List.set e298 0 (PV.int .i64 y287))).length : Int) then
          Option.bind ((List.set es284 (Int.toNat (IntKind.i64.wrap (a281 - (1 : Int)))) (List.set e298 0 (PV.int .i64 y287)))[(Int.toNat (IntKind.i64.wrap (b282 - (1 : Int))))]?) fun e300 =>
          Option.bind (e300[0]?) fun c301 =>
          pInst_q27 n l278 size279 k280 a281 b282 es283 (List.set (List.set es284 (Int.toNat (IntKind.i64.wrap (a281 - (1 : Int)))) (List.set e298 0 (PV.int .i64 y287))) (Int.toNat (IntKind.i64.wrap (b282 - (1 : Int)))) (List.set e300 0 (PV.int .i64 (IntKind.i64.wrap (0 - y287))))) es285 k0
        else none)
    else none) (
    if 0 ≤ (IntKind.i64.wrap (a281 - (1 : Int))) ∧ (IntKind.i64.wrap (a281 - (1 : Int))) < (es284.length : Int) then
      Option.bind (es284[(Int.toNat (IntKind.i64.wrap (a281 - (1 : Int))))]?) fun e308 =>
      Option.bind (e308[0]?) fun c309 =>
      if 0 ≤ (IntKind.i64.wrap (b282 - (1 : Int))) ∧ (IntKind.i64.wrap (b282 - (1 : Int))) < ((List.set es284 (Int.toNat (IntKind.i64.wrap (a281 - (1 : Int)))) (List.set e308 0 (PV.int .i64 y287))).length : Int) then
        Option.bind ((List.set es284 (Int.toNat (IntKind.i64.wrap (a281 - (1 : Int)))) (List.set e308 0 (PV.int .i64 y287)))[(Int.toNat (IntKind.i64.wrap (b282 - (1 : Int))))]?) fun e310 =>
        Option.bind (e310[0]?) fun c311 =>
        pInst_q27 n l278 size279 k280 a281 b282 es283 (List.set (List.set es284 (Int.toNat (IntKind.i64.wrap (a281 - (1 : Int)))) (List.set e308 0 (PV.int .i64 y287))) (Int.toNat (IntKind.i64.wrap (b282 - (1 : Int)))) (List.set e310 0 (PV.int .i64 (IntKind.i64.wrap (0 - y287))))) es285 k0
      else none
    else none)
def pInst_l28 {R : Type} : Nat → List (List PV) → Int → Int → List (List PV) → List (List PV) → List (List PV) → List (List PV) → (List (List PV) → List (List PV) → List (List PV) → List (List PV) → Option R) → Option R
  | 0, _, _, _, _, _, _, _, _ => none
  | n + 1, l240, size241, a242, es243, es244, es245, es246, k0 =>
    cond (decide (a242 ≤ size241)) (
      pInst_l32 n l240 size241 a242 0 es243 es244 es245 es246 []
        (fun (l247 : List (List PV)) (size248 : Int) (a249 : Int) (es250 : List (List PV)) (es251 : List (List PV)) (es252 : List (List PV)) (es253 : List (List PV)) (es254 : List (List PV)) =>
          if (es253.length + ([[(PV.fs es254)]] : List (List PV)).length) * 24 ≤ maxBytes then
            pInst_l28 n l247 size248 (IntKind.i64.wrap (a249 + (1 : Int))) es250 es251 es252 (es253 ++ [[(PV.fs es254)]]) k0
          else none)) (
      k0 es243 es244 es245 es246)
def pInst_l19 {R : Type} : Nat → List (List PV) → Int → Int → List (List PV) → List (List PV) → List (List PV) → (List (List PV) → Int → List (List PV) → List (List PV) → List (List PV) → Option R) → Option R
  | 0, _, _, _, _, _, _, _ => none
  | n + 1, l218, size219, k220, es221, es222, es223, k0 =>
    Option.bind (pNum_d l218 14) fun y224 =>
    Option.bind (within_d y224 3) fun y225 =>
    cond (decide (k220 < y225)) (
      cond (decide ((IntKind.i64.wrap ((IntKind.i64.wrap ((2 : Int) * k220)) + (2 : Int))) ≤ size219)) (
        Option.bind (pNum_d l218 (IntKind.i64.wrap ((15 : Int) + k220))) fun y226 =>
        Option.bind (within_d y226 2) fun y227 =>
        cond (y227 == (1 : Int)) (
          pInst_q25 n l218 size219 k220 (IntKind.i64.wrap ((IntKind.i64.wrap ((2 : Int) * k220)) + (2 : Int))) (IntKind.i64.wrap ((IntKind.i64.wrap ((2 : Int) * k220)) + (1 : Int))) es221 es222 es223
            (fun (l228 : List (List PV)) (size229 : Int) (k230 : Int) (es231 : List (List PV)) (es232 : List (List PV)) (es233 : List (List PV)) =>
              pInst_l19 n l228 size229 (IntKind.i64.wrap (k230 + (1 : Int))) es231 es232 es233 k0)) (
          pInst_q25 n l218 size219 k220 (IntKind.i64.wrap ((IntKind.i64.wrap ((2 : Int) * k220)) + (1 : Int))) (IntKind.i64.wrap ((IntKind.i64.wrap ((2 : Int) * k220)) + (2 : Int))) es221 es222 es223
            (fun (l234 : List (List PV)) (size235 : Int) (k236 : Int) (es237 : List (List PV)) (es238 : List (List PV)) (es239 : List (List PV)) =>
              pInst_l19 n l234 size235 (IntKind.i64.wrap (k236 + (1 : Int))) es237 es238 es239 k0))) (
        k0 l218 size219 es221 es222 es223)) (
      k0 l218 size219 es221 es222 es223)
def pInst_l10 {R : Type} : Nat → List (List PV) → Int → Int → List (List PV) → List (List PV) → (List (List PV) → Int → List (List PV) → List (List PV) → Option R) → Option R
  | 0, _, _, _, _, _, _ => none
  | n + 1, l184, size185, k186, es187, es188, k0 =>
    cond (decide (k186 < size185)) (
      Option.bind (pNum_d l184 (IntKind.i64.wrap ((5 : Int) + k186))) fun y189 =>
      Option.bind (within_d y189 8) fun y190 =>
      Option.bind (within_d (IntKind.i64.wrap (Int.tdiv y189 (8 : Int))) 30) fun y191 =>
      Option.bind (within_d (IntKind.i64.wrap (Int.tdiv y189 (240 : Int))) 6) fun y192 =>
      Option.bind (within_d (IntKind.i64.wrap (Int.tdiv y189 (7 : Int))) 4) fun y193 =>
      meet (
        if 0 ≤ y193 ∧ y193 < (4 : Int) then
          Option.bind (([[(PV.int .i64 900)], [(PV.int .i64 60)], [(PV.int .i64 25)], [(PV.int .i64 8)]] : List (List PV))[(Int.toNat y193)]?) fun e194 =>
          Option.bind (e194[0]?) fun c195 =>
          Option.bind (PV.asI .i64 c195) fun n196 =>
          pInst_q16 n l184 size185 k186 y189 es187 es188 y190 y191 (if (1000 : Int) < (IntKind.i64.wrap (y191 + n196)) then (1000 : Int) else (IntKind.i64.wrap (y191 + n196))) y192
            (fun (l197 : List (List PV)) (size198 : Int) (k199 : Int) (es200 : List (List PV)) (es201 : List (List PV)) =>
              pInst_l10 n l197 size198 (IntKind.i64.wrap (k199 + (1 : Int))) es200 es201 k0)
        else none) (
        if 0 ≤ y193 ∧ y193 < (4 : Int) then
          meet (
            Option.bind (([[(PV.int .i64 900)], [(PV.int .i64 60)], [(PV.int .i64 25)], [(PV.int .i64 8)]] : List (List PV))[(Int.toNat y193)]?) fun e202 =>
            Option.bind (e202[0]?) fun c203 =>
            Option.bind (PV.asI .i64 c203) fun n204 =>
            pInst_q16 n l184 size185 k186 y189 es187 es188 y190 y191 (if (1000 : Int) < (IntKind.i64.wrap (y191 + n204)) then (1000 : Int) else (IntKind.i64.wrap (y191 + n204))) y192
              (fun (l205 : List (List PV)) (size206 : Int) (k207 : Int) (es208 : List (List PV)) (es209 : List (List PV)) =>
                pInst_l10 n l205 size206 (IntKind.i64.wrap (k207 + (1 : Int))) es208 es209 k0)) (
            Option.bind (([[(PV.int .i64 900)], [(PV.int .i64 60)], [(PV.int .i64 25)], [(PV.int .i64 8)]] : List (List PV))[(Int.toNat y193)]?) fun e210 =>
            Option.bind (e210[0]?) fun c211 =>
            Option.bind (PV.asI .i64 c211) fun n212 =>
            pInst_q16 n l184 size185 k186 y189 es187 es188 y190 y191 (if (1000 : Int) < (IntKind.i64.wrap (y191 + n212)) then (1000 : Int) else (IntKind.i64.wrap (y191 + n212))) y192
              (fun (l213 : List (List PV)) (size214 : Int) (k215 : Int) (es216 : List (List PV)) (es217 : List (List PV)) =>
                pInst_l10 n l213 size214 (IntKind.i64.wrap (k215 + (1 : Int))) es216 es217 k0))
        else none)) (
      k0 l184 size185 es187 es188)
def pInst_l4 {R : Type} : Nat → List (List PV) → Int → List (List PV) → (List (List PV) → List (List PV) → Option R) → Option R
  | 0, _, _, _, _ => none
  | n + 1, l19, k20, es21, k0 =>
    Option.bind (pNum_d l19 0) fun y22 =>
    Option.bind (within_d y22 3) fun y23 =>
    cond (decide (k20 < (IntKind.i64.wrap ((1 : Int) + y23)))) (
      Option.bind (pNum_d l19 (IntKind.i64.wrap ((1 : Int) + k20))) fun y24 =>
      Option.bind (within_d y24 4) fun y25 =>
      Option.bind (within_d (IntKind.i64.wrap (Int.tdiv y24 (4 : Int))) 9) fun y26 =>
      Option.bind (within_d (IntKind.i64.wrap (Int.tdiv y24 (36 : Int))) 4) fun y27 =>
      meet (
        meet (
          if 0 ≤ y25 ∧ y25 < (4 : Int) then
            meet (
              Option.bind (([[(PV.int .i64 20)], [(PV.int .i64 60)], [(PV.int .i64 9)], [(PV.int .i64 30)]] : List (List PV))[(Int.toNat y25)]?) fun e28 =>
              Option.bind (e28[0]?) fun c29 =>
              Option.bind (PV.asI .i64 c29) fun n30 =>
              if 0 ≤ y27 ∧ y27 < (4 : Int) then
                Option.bind (([[(PV.int .i64 1000)], [(PV.int .i64 200)], [(PV.int .i64 90)], [(PV.int .i64 60)]] : List (List PV))[(Int.toNat y27)]?) fun e31 =>
                Option.bind (e31[0]?) fun c32 =>
                Option.bind (PV.asI .i64 c32) fun n33 =>
                if (es21.length + ([[(PV.int .i64 n30), (PV.int .i64 y26), (PV.int .i64 n33)]] : List (List PV)).length) * 24 ≤ maxBytes then
                  pInst_l4 n l19 (IntKind.i64.wrap (k20 + (1 : Int))) (es21 ++ [[(PV.int .i64 n30), (PV.int .i64 y26), (PV.int .i64 n33)]]) k0
                else none
              else none) (
              if 0 ≤ y27 ∧ y27 < (4 : Int) then
                meet (
                  Option.bind (([[(PV.int .i64 20)], [(PV.int .i64 60)], [(PV.int .i64 9)], [(PV.int .i64 30)]] : List (List PV))[(Int.toNat y25)]?) fun e34 =>
                  Option.bind (e34[0]?) fun c35 =>
                  Option.bind (PV.asI .i64 c35) fun n36 =>
                  Option.bind (([[(PV.int .i64 1000)], [(PV.int .i64 200)], [(PV.int .i64 90)], [(PV.int .i64 60)]] : List (List PV))[(Int.toNat y27)]?) fun e37 =>
                  Option.bind (e37[0]?) fun c38 =>
                  Option.bind (PV.asI .i64 c38) fun n39 =>
                  if (es21.length + ([[(PV.int .i64 n36), (PV.int .i64 y26), (PV.int .i64 n39)]] : List (List PV)).length) * 24 ≤ maxBytes then
                    pInst_l4 n l19 (IntKind.i64.wrap (k20 + (1 : Int))) (es21 ++ [[(PV.int .i64 n36), (PV.int .i64 y26), (PV.int .i64 n39)]]) k0
                  else none) (
                  Option.bind (([[(PV.int .i64 1000)], [(PV.int .i64 200)], [(PV.int .i64 90)], [(PV.int .i64 60)]] : List (List PV))[(Int.toNat y27)]?) fun e40 =>
                  Option.bind (e40[0]?) fun c41 =>
                  Option.bind (PV.asI .i64 c41) fun n42 =>
                  Option.bind (([[(PV.int .i64 20)], [(PV.int .i64 60)], [(PV.int .i64 9)], [(PV.int .i64 30)]] : List (List PV))[(Int.toNat y25)]?) fun e43 =>
                  Option.bind (e43[0]?) fun c44 =>
                  Option.bind (PV.asI .i64 c44) fun n45 =>
                  if (es21.length + ([[(PV.int .i64 n45), (PV.int .i64 y26), (PV.int .i64 n42)]] : List (List PV)).length) * 24 ≤ maxBytes then
                    pInst_l4 n l19 (IntKind.i64.wrap (k20 + (1 : Int))) (es21 ++ [[(PV.int .i64 n45), (PV.int .i64 y26), (PV.int .i64 n42)]]) k0
                  else none)
              else none)
          else none) (
          if 0 ≤ y27 ∧ y27 < (4 : Int) then
            meet (
              if 0 ≤ y25 ∧ y25 < (4 : Int) then
                meet (
                  Option.bind (([[(PV.int .i64 20)], [(PV.int .i64 60)], [(PV.int .i64 9)], [(PV.int .i64 30)]] : List (List PV))[(Int.toNat y25)]?) fun e46 =>
                  Option.bind (e46[0]?) fun c47 =>
                  Option.bind (PV.asI .i64 c47) fun n48 =>
                  Option.bind (([[(PV.int .i64 1000)], [(PV.int .i64 200)], [(PV.int .i64 90)], [(PV.int .i64 60)]] : List (List PV))[(Int.toNat y27)]?) fun e49 =>
                  Option.bind (e49[0]?) fun c50 =>
                  Option.bind (PV.asI .i64 c50) fun n51 =>
                  if (es21.length + ([[(PV.int .i64 n48), (PV.int .i64 y26), (PV.int .i64 n51)]] : List (List PV)).length) * 24 ≤ maxBytes then
                    pInst_l4 n l19 (IntKind.i64.wrap (k20 + (1 : Int))) (es21 ++ [[(PV.int .i64 n48), (PV.int .i64 y26), (PV.int .i64 n51)]]) k0
                  else none) (
                  Option.bind (([[(PV.int .i64 1000)], [(PV.int .i64 200)], [(PV.int .i64 90)], [(PV.int .i64 60)]] : List (List PV))[(Int.toNat y27)]?) fun e52 =>
                  Option.bind (e52[0]?) fun c53 =>
                  Option.bind (PV.asI .i64 c53) fun n54 =>
                  Option.bind (([[(PV.int .i64 20)], [(PV.int .i64 60)], [(PV.int .i64 9)], [(PV.int .i64 30)]] : List (List PV))[(Int.toNat y25)]?) fun e55 =>
                  Option.bind (e55[0]?) fun c56 =>
                  Option.bind (PV.asI .i64 c56) fun n57 =>
                  if (es21.length + ([[(PV.int .i64 n57), (PV.int .i64 y26), (PV.int .i64 n54)]] : List (List PV)).length) * 24 ≤ maxBytes then
                    pInst_l4 n l19 (IntKind.i64.wrap (k20 + (1 : Int))) (es21 ++ [[(PV.int .i64 n57), (PV.int .i64 y26), (PV.int .i64 n54)]]) k0
                  else none)
              else none) (
              Option.bind (([[(PV.int .i64 1000)], [(PV.int .i64 200)], [(PV.int .i64 90)], [(PV.int .i64 60)]] : List (List PV))[(Int.toNat y27)]?) fun e58 =>
              Option.bind (e58[0]?) fun c59 =>
              Option.bind (PV.asI .i64 c59) fun n60 =>
              if 0 ≤ y25 ∧ y25 < (4 : Int) then
                Option.bind (([[(PV.int .i64 20)], [(PV.int .i64 60)], [(PV.int .i64 9)], [(PV.int .i64 30)]] : List (List PV))[(Int.toNat y25)]?) fun e61 =>
                Option.bind (e61[0]?) fun c62 =>
                Option.bind (PV.asI .i64 c62) fun n63 =>
                if (es21.length + ([[(PV.int .i64 n63), (PV.int .i64 y26), (PV.int .i64 n60)]] : List (List PV)).length) * 24 ≤ maxBytes then
                  pInst_l4 n l19 (IntKind.i64.wrap (k20 + (1 : Int))) (es21 ++ [[(PV.int .i64 n63), (PV.int .i64 y26), (PV.int .i64 n60)]]) k0
                else none
              else none)
          else none)) (
        meet (
        if 0 ≤ y25 ∧ y25 < (4 : Int) then
          meet (
            meet (
              Option.bind (([[(PV.int .i64 20)], [(PV.int .i64 60)], [(PV.int .i64 9)], [(PV.int .i64 30)]] : List (List PV))[(Int.toNat y25)]?) fun e64 =>
              Option.bind (e64[0]?) fun c65 =>
              Option.bind (PV.asI .i64 c65) fun n66 =>
              if 0 ≤ y27 ∧ y27 < (4 : Int) then
                Option.bind (([[(PV.int .i64 1000)], [(PV.int .i64 200)], [(PV.int .i64 90)], [(PV.int .i64 60)]] : List (List PV))[(Int.toNat y27)]?) fun e67 =>
                Option.bind (e67[0]?) fun c68 =>
                Option.bind (PV.asI .i64 c68) fun n69 =>
                if (es21.length + ([[(PV.int .i64 n66), (PV.int .i64 y26), (PV.int .i64 n69)]] : List (List PV)).length) * 24 ≤ maxBytes then
                  pInst_l4 n l19 (IntKind.i64.wrap (k20 + (1 : Int))) (es21 ++ [[(PV.int .i64 n66), (PV.int .i64 y26), (PV.int .i64 n69)]]) k0
                else none
              else none) (
              if 0 ≤ y27 ∧ y27 < (4 : Int) then
                meet (
                  Option.bind (([[(PV.int .i64 20)], [(PV.int .i64 60)], [(PV.int .i64 9)], [(PV.int .i64 30)]] : List (List PV))[(Int.toNat y25)]?) fun e70 =>
                  Option.bind (e70[0]?) fun c71 =>
                  Option.bind (PV.asI .i64 c71) fun n72 =>
                  Option.bind (([[(PV.int .i64 1000)], [(PV.int .i64 200)], [(PV.int .i64 90)], [(PV.int .i64 60)]] : List (List PV))[(Int.toNat y27)]?) fun e73 =>
                  Option.bind (e73[0]?) fun c74 =>
                  Option.bind (PV.asI .i64 c74) fun n75 =>
                  if (es21.length + ([[(PV.int .i64 n72), (PV.int .i64 y26), (PV.int .i64 n75)]] : List (List PV)).length) * 24 ≤ maxBytes then
                    pInst_l4 n l19 (IntKind.i64.wrap (k20 + (1 : Int))) (es21 ++ [[(PV.int .i64 n72), (PV.int .i64 y26), (PV.int .i64 n75)]]) k0
                  else none) (
                  Option.bind (([[(PV.int .i64 1000)], [(PV.int .i64 200)], [(PV.int .i64 90)], [(PV.int .i64 60)]] : List (List PV))[(Int.toNat y27)]?) fun e76 =>
                  Option.bind (e76[0]?) fun c77 =>
                  Option.bind (PV.asI .i64 c77) fun n78 =>
                  Option.bind (([[(PV.int .i64 20)], [(PV.int .i64 60)], [(PV.int .i64 9)], [(PV.int .i64 30)]] : List (List PV))[(Int.toNat y25)]?) fun e79 =>
                  Option.bind (e79[0]?) fun c80 =>
                  Option.bind (PV.asI .i64 c80) fun n81 =>
                  if (es21.length + ([[(PV.int .i64 n81), (PV.int .i64 y26), (PV.int .i64 n78)]] : List (List PV)).length) * 24 ≤ maxBytes then
                    pInst_l4 n l19 (IntKind.i64.wrap (k20 + (1 : Int))) (es21 ++ [[(PV.int .i64 n81), (PV.int .i64 y26), (PV.int .i64 n78)]]) k0
                  else none)
              else none)) (
            meet (
            Option.bind (([[(PV.int .i64 20)], [(PV.int .i64 60)], [(PV.int .i64 9)], [(PV.int .i64 30)]] : List (List PV))[(Int.toNat y25)]?) fun e82 =>
            Option.bind (e82[0]?) fun c83 =>
            Option.bind (PV.asI .i64 c83) fun n84 =>
            meet (
              if 0 ≤ y27 ∧ y27 < (4 : Int) then
                Option.bind (([[(PV.int .i64 1000)], [(PV.int .i64 200)], [(PV.int .i64 90)], [(PV.int .i64 60)]] : List (List PV))[(Int.toNat y27)]?) fun e85 =>
                Option.bind (e85[0]?) fun c86 =>
                Option.bind (PV.asI .i64 c86) fun n87 =>
                if (es21.length + ([[(PV.int .i64 n84), (PV.int .i64 y26), (PV.int .i64 n87)]] : List (List PV)).length) * 24 ≤ maxBytes then
                  pInst_l4 n l19 (IntKind.i64.wrap (k20 + (1 : Int))) (es21 ++ [[(PV.int .i64 n84), (PV.int .i64 y26), (PV.int .i64 n87)]]) k0
                else none
              else none) (
              if 0 ≤ y27 ∧ y27 < (4 : Int) then
                meet (
                  Option.bind (([[(PV.int .i64 1000)], [(PV.int .i64 200)], [(PV.int .i64 90)], [(PV.int .i64 60)]] : List (List PV))[(Int.toNat y27)]?) fun e88 =>
                  Option.bind (e88[0]?) fun c89 =>
                  Option.bind (PV.asI .i64 c89) fun n90 =>
                  if (es21.length + ([[(PV.int .i64 n84), (PV.int .i64 y26), (PV.int .i64 n90)]] : List (List PV)).length) * 24 ≤ maxBytes then
                    pInst_l4 n l19 (IntKind.i64.wrap (k20 + (1 : Int))) (es21 ++ [[(PV.int .i64 n84), (PV.int .i64 y26), (PV.int .i64 n90)]]) k0
                  else none) (
                  Option.bind (([[(PV.int .i64 1000)], [(PV.int .i64 200)], [(PV.int .i64 90)], [(PV.int .i64 60)]] : List (List PV))[(Int.toNat y27)]?) fun e91 =>
                  Option.bind (e91[0]?) fun c92 =>
                  Option.bind (PV.asI .i64 c92) fun n93 =>
                  meet (
                    if (es21.length + ([[(PV.int .i64 n84), (PV.int .i64 y26), (PV.int .i64 n93)]] : List (List PV)).length) * 24 ≤ maxBytes then
                      pInst_l4 n l19 (IntKind.i64.wrap (k20 + (1 : Int))) (es21 ++ [[(PV.int .i64 n84), (PV.int .i64 y26), (PV.int .i64 n93)]]) k0
                    else none) (
                    meet (
                      if (es21.length + ([[(PV.int .i64 n84), (PV.int .i64 y26), (PV.int .i64 n93)]] : List (List PV)).length) * 24 ≤ maxBytes then
                        pInst_l4 n l19 (IntKind.i64.wrap (k20 + (1 : Int))) (es21 ++ [[(PV.int .i64 n84), (PV.int .i64 y26), (PV.int .i64 n93)]]) k0
                      else none) (
                      if (es21.length + ([[(PV.int .i64 n84), (PV.int .i64 y26), (PV.int .i64 n93)]] : List (List PV)).length) * 24 ≤ maxBytes then
                        pInst_l4 n l19 (IntKind.i64.wrap (k20 + (1 : Int))) (es21 ++ [[(PV.int .i64 n84), (PV.int .i64 y26), (PV.int .i64 n93)]]) k0
                      else none)))
              else none)) (
            if 0 ≤ y27 ∧ y27 < (4 : Int) then
              meet (
                meet (
                  Option.bind (([[(PV.int .i64 20)], [(PV.int .i64 60)], [(PV.int .i64 9)], [(PV.int .i64 30)]] : List (List PV))[(Int.toNat y25)]?) fun e94 =>
                  Option.bind (e94[0]?) fun c95 =>
                  Option.bind (PV.asI .i64 c95) fun n96 =>
                  Option.bind (([[(PV.int .i64 1000)], [(PV.int .i64 200)], [(PV.int .i64 90)], [(PV.int .i64 60)]] : List (List PV))[(Int.toNat y27)]?) fun e97 =>
                  Option.bind (e97[0]?) fun c98 =>
                  Option.bind (PV.asI .i64 c98) fun n99 =>
                  if (es21.length + ([[(PV.int .i64 n96), (PV.int .i64 y26), (PV.int .i64 n99)]] : List (List PV)).length) * 24 ≤ maxBytes then
                    pInst_l4 n l19 (IntKind.i64.wrap (k20 + (1 : Int))) (es21 ++ [[(PV.int .i64 n96), (PV.int .i64 y26), (PV.int .i64 n99)]]) k0
                  else none) (
                  Option.bind (([[(PV.int .i64 1000)], [(PV.int .i64 200)], [(PV.int .i64 90)], [(PV.int .i64 60)]] : List (List PV))[(Int.toNat y27)]?) fun e100 =>
                  Option.bind (e100[0]?) fun c101 =>
                  Option.bind (PV.asI .i64 c101) fun n102 =>
                  Option.bind (([[(PV.int .i64 20)], [(PV.int .i64 60)], [(PV.int .i64 9)], [(PV.int .i64 30)]] : List (List PV))[(Int.toNat y25)]?) fun e103 =>
                  Option.bind (e103[0]?) fun c104 =>
                  Option.bind (PV.asI .i64 c104) fun n105 =>
                  if (es21.length + ([[(PV.int .i64 n105), (PV.int .i64 y26), (PV.int .i64 n102)]] : List (List PV)).length) * 24 ≤ maxBytes then
                    pInst_l4 n l19 (IntKind.i64.wrap (k20 + (1 : Int))) (es21 ++ [[(PV.int .i64 n105), (PV.int .i64 y26), (PV.int .i64 n102)]]) k0
                  else none)) (
                meet (
                Option.bind (([[(PV.int .i64 20)], [(PV.int .i64 60)], [(PV.int .i64 9)], [(PV.int .i64 30)]] : List (List PV))[(Int.toNat y25)]?) fun e106 =>
                Option.bind (e106[0]?) fun c107 =>
                Option.bind (PV.asI .i64 c107) fun n108 =>
                meet (
                  Option.bind (([[(PV.int .i64 1000)], [(PV.int .i64 200)], [(PV.int .i64 90)], [(PV.int .i64 60)]] : List (List PV))[(Int.toNat y27)]?) fun e109 =>
                  Option.bind (e109[0]?) fun c110 =>
                  Option.bind (PV.asI .i64 c110) fun n111 =>
                  if (es21.length + ([[(PV.int .i64 n108), (PV.int .i64 y26), (PV.int .i64 n111)]] : List (List PV)).length) * 24 ≤ maxBytes then
                    pInst_l4 n l19 (IntKind.i64.wrap (k20 + (1 : Int))) (es21 ++ [[(PV.int .i64 n108), (PV.int .i64 y26), (PV.int .i64 n111)]]) k0
                  else none) (
                  Option.bind (([[(PV.int .i64 1000)], [(PV.int .i64 200)], [(PV.int .i64 90)], [(PV.int .i64 60)]] : List (List PV))[(Int.toNat y27)]?) fun e112 =>
                  Option.bind (e112[0]?) fun c113 =>
                  Option.bind (PV.asI .i64 c113) fun n114 =>
                  meet (
                    if (es21.length + ([[(PV.int .i64 n108), (PV.int .i64 y26), (PV.int .i64 n114)]] : List (List PV)).length) * 24 ≤ maxBytes then
                      pInst_l4 n l19 (IntKind.i64.wrap (k20 + (1 : Int))) (es21 ++ [[(PV.int .i64 n108), (PV.int .i64 y26), (PV.int .i64 n114)]]) k0
                    else none) (
                    meet (
                      if (es21.length + ([[(PV.int .i64 n108), (PV.int .i64 y26), (PV.int .i64 n114)]] : List (List PV)).length) * 24 ≤ maxBytes then
                        pInst_l4 n l19 (IntKind.i64.wrap (k20 + (1 : Int))) (es21 ++ [[(PV.int .i64 n108), (PV.int .i64 y26), (PV.int .i64 n114)]]) k0
                      else none) (
                      if (es21.length + ([[(PV.int .i64 n108), (PV.int .i64 y26), (PV.int .i64 n114)]] : List (List PV)).length) * 24 ≤ maxBytes then
                        pInst_l4 n l19 (IntKind.i64.wrap (k20 + (1 : Int))) (es21 ++ [[(PV.int .i64 n108), (PV.int .i64 y26), (PV.int .i64 n114)]]) k0
                      else none)))) (
                Option.bind (([[(PV.int .i64 1000)], [(PV.int .i64 200)], [(PV.int .i64 90)], [(PV.int .i64 60)]] : List (List PV))[(Int.toNat y27)]?) fun e115 =>
                Option.bind (e115[0]?) fun c116 =>
                Option.bind (PV.asI .i64 c116) fun n117 =>
                meet (
                  Option.bind (([[(PV.int .i64 20)], [(PV.int .i64 60)], [(PV.int .i64 9)], [(PV.int .i64 30)]] : List (List PV))[(Int.toNat y25)]?) fun e118 =>
                  Option.bind (e118[0]?) fun c119 =>
                  Option.bind (PV.asI .i64 c119) fun n120 =>
                  if (es21.length + ([[(PV.int .i64 n120), (PV.int .i64 y26), (PV.int .i64 n117)]] : List (List PV)).length) * 24 ≤ maxBytes then
                    pInst_l4 n l19 (IntKind.i64.wrap (k20 + (1 : Int))) (es21 ++ [[(PV.int .i64 n120), (PV.int .i64 y26), (PV.int .i64 n117)]]) k0
                  else none) (
                  Option.bind (([[(PV.int .i64 20)], [(PV.int .i64 60)], [(PV.int .i64 9)], [(PV.int .i64 30)]] : List (List PV))[(Int.toNat y25)]?) fun e121 =>
                  Option.bind (e121[0]?) fun c122 =>
                  Option.bind (PV.asI .i64 c122) fun n123 =>
                  meet (
                    if (es21.length + ([[(PV.int .i64 n123), (PV.int .i64 y26), (PV.int .i64 n117)]] : List (List PV)).length) * 24 ≤ maxBytes then
                      pInst_l4 n l19 (IntKind.i64.wrap (k20 + (1 : Int))) (es21 ++ [[(PV.int .i64 n123), (PV.int .i64 y26), (PV.int .i64 n117)]]) k0
                    else none) (
                    meet (
                      if (es21.length + ([[(PV.int .i64 n123), (PV.int .i64 y26), (PV.int .i64 n117)]] : List (List PV)).length) * 24 ≤ maxBytes then
                        pInst_l4 n l19 (IntKind.i64.wrap (k20 + (1 : Int))) (es21 ++ [[(PV.int .i64 n123), (PV.int .i64 y26), (PV.int .i64 n117)]]) k0
                      else none) (
                      if (es21.length + ([[(PV.int .i64 n123), (PV.int .i64 y26), (PV.int .i64 n117)]] : List (List PV)).length) * 24 ≤ maxBytes then
                        pInst_l4 n l19 (IntKind.i64.wrap (k20 + (1 : Int))) (es21 ++ [[(PV.int .i64 n123), (PV.int .i64 y26), (PV.int .i64 n117)]]) k0
                      else none)))))
            else none))
        else none) (
        if 0 ≤ y27 ∧ y27 < (4 : Int) then
          meet (
            meet (
              if 0 ≤ y25 ∧ y25 < (4 : Int) then
                meet (
                  Option.bind (([[(PV.int .i64 20)], [(PV.int .i64 60)], [(PV.int .i64 9)], [(PV.int .i64 30)]] : List (List PV))[(Int.toNat y25)]?) fun e124 =>
                  Option.bind (e124[0]?) fun c125 =>
                  Option.bind (PV.asI .i64 c125) fun n126 =>
                  Option.bind (([[(PV.int .i64 1000)], [(PV.int .i64 200)], [(PV.int .i64 90)], [(PV.int .i64 60)]] : List (List PV))[(Int.toNat y27)]?) fun e127 =>
                  Option.bind (e127[0]?) fun c128 =>
                  Option.bind (PV.asI .i64 c128) fun n129 =>
                  if (es21.length + ([[(PV.int .i64 n126), (PV.int .i64 y26), (PV.int .i64 n129)]] : List (List PV)).length) * 24 ≤ maxBytes then
                    pInst_l4 n l19 (IntKind.i64.wrap (k20 + (1 : Int))) (es21 ++ [[(PV.int .i64 n126), (PV.int .i64 y26), (PV.int .i64 n129)]]) k0
                  else none) (
                  Option.bind (([[(PV.int .i64 1000)], [(PV.int .i64 200)], [(PV.int .i64 90)], [(PV.int .i64 60)]] : List (List PV))[(Int.toNat y27)]?) fun e130 =>
                  Option.bind (e130[0]?) fun c131 =>
                  Option.bind (PV.asI .i64 c131) fun n132 =>
                  Option.bind (([[(PV.int .i64 20)], [(PV.int .i64 60)], [(PV.int .i64 9)], [(PV.int .i64 30)]] : List (List PV))[(Int.toNat y25)]?) fun e133 =>
                  Option.bind (e133[0]?) fun c134 =>
                  Option.bind (PV.asI .i64 c134) fun n135 =>
                  if (es21.length + ([[(PV.int .i64 n135), (PV.int .i64 y26), (PV.int .i64 n132)]] : List (List PV)).length) * 24 ≤ maxBytes then
                    pInst_l4 n l19 (IntKind.i64.wrap (k20 + (1 : Int))) (es21 ++ [[(PV.int .i64 n135), (PV.int .i64 y26), (PV.int .i64 n132)]]) k0
                  else none)
              else none) (
              Option.bind (([[(PV.int .i64 1000)], [(PV.int .i64 200)], [(PV.int .i64 90)], [(PV.int .i64 60)]] : List (List PV))[(Int.toNat y27)]?) fun e136 =>
              Option.bind (e136[0]?) fun c137 =>
              Option.bind (PV.asI .i64 c137) fun n138 =>
              if 0 ≤ y25 ∧ y25 < (4 : Int) then
                Option.bind (([[(PV.int .i64 20)], [(PV.int .i64 60)], [(PV.int .i64 9)], [(PV.int .i64 30)]] : List (List PV))[(Int.toNat y25)]?) fun e139 =>
                Option.bind (e139[0]?) fun c140 =>
                Option.bind (PV.asI .i64 c140) fun n141 =>
                if (es21.length + ([[(PV.int .i64 n141), (PV.int .i64 y26), (PV.int .i64 n138)]] : List (List PV)).length) * 24 ≤ maxBytes then
                  pInst_l4 n l19 (IntKind.i64.wrap (k20 + (1 : Int))) (es21 ++ [[(PV.int .i64 n141), (PV.int .i64 y26), (PV.int .i64 n138)]]) k0
                else none
              else none)) (
            meet (
            if 0 ≤ y25 ∧ y25 < (4 : Int) then
              meet (
                meet (
                  Option.bind (([[(PV.int .i64 20)], [(PV.int .i64 60)], [(PV.int .i64 9)], [(PV.int .i64 30)]] : List (List PV))[(Int.toNat y25)]?) fun e142 =>
                  Option.bind (e142[0]?) fun c143 =>
                  Option.bind (PV.asI .i64 c143) fun n144 =>
                  Option.bind (([[(PV.int .i64 1000)], [(PV.int .i64 200)], [(PV.int .i64 90)], [(PV.int .i64 60)]] : List (List PV))[(Int.toNat y27)]?) fun e145 =>
                  Option.bind (e145[0]?) fun c146 =>
                  Option.bind (PV.asI .i64 c146) fun n147 =>
                  if (es21.length + ([[(PV.int .i64 n144), (PV.int .i64 y26), (PV.int .i64 n147)]] : List (List PV)).length) * 24 ≤ maxBytes then
                    pInst_l4 n l19 (IntKind.i64.wrap (k20 + (1 : Int))) (es21 ++ [[(PV.int .i64 n144), (PV.int .i64 y26), (PV.int .i64 n147)]]) k0
                  else none) (
                  Option.bind (([[(PV.int .i64 1000)], [(PV.int .i64 200)], [(PV.int .i64 90)], [(PV.int .i64 60)]] : List (List PV))[(Int.toNat y27)]?) fun e148 =>
                  Option.bind (e148[0]?) fun c149 =>
                  Option.bind (PV.asI .i64 c149) fun n150 =>
                  Option.bind (([[(PV.int .i64 20)], [(PV.int .i64 60)], [(PV.int .i64 9)], [(PV.int .i64 30)]] : List (List PV))[(Int.toNat y25)]?) fun e151 =>
                  Option.bind (e151[0]?) fun c152 =>
                  Option.bind (PV.asI .i64 c152) fun n153 =>
                  if (es21.length + ([[(PV.int .i64 n153), (PV.int .i64 y26), (PV.int .i64 n150)]] : List (List PV)).length) * 24 ≤ maxBytes then
                    pInst_l4 n l19 (IntKind.i64.wrap (k20 + (1 : Int))) (es21 ++ [[(PV.int .i64 n153), (PV.int .i64 y26), (PV.int .i64 n150)]]) k0
                  else none)) (
                meet (
                Option.bind (([[(PV.int .i64 20)], [(PV.int .i64 60)], [(PV.int .i64 9)], [(PV.int .i64 30)]] : List (List PV))[(Int.toNat y25)]?) fun e154 =>
                Option.bind (e154[0]?) fun c155 =>
                Option.bind (PV.asI .i64 c155) fun n156 =>
                meet (
                  Option.bind (([[(PV.int .i64 1000)], [(PV.int .i64 200)], [(PV.int .i64 90)], [(PV.int .i64 60)]] : List (List PV))[(Int.toNat y27)]?) fun e157 =>
                  Option.bind (e157[0]?) fun c158 =>
                  Option.bind (PV.asI .i64 c158) fun n159 =>
                  if (es21.length + ([[(PV.int .i64 n156), (PV.int .i64 y26), (PV.int .i64 n159)]] : List (List PV)).length) * 24 ≤ maxBytes then
                    pInst_l4 n l19 (IntKind.i64.wrap (k20 + (1 : Int))) (es21 ++ [[(PV.int .i64 n156), (PV.int .i64 y26), (PV.int .i64 n159)]]) k0
                  else none) (
                  Option.bind (([[(PV.int .i64 1000)], [(PV.int .i64 200)], [(PV.int .i64 90)], [(PV.int .i64 60)]] : List (List PV))[(Int.toNat y27)]?) fun e160 =>
                  Option.bind (e160[0]?) fun c161 =>
                  Option.bind (PV.asI .i64 c161) fun n162 =>
                  meet (
                    if (es21.length + ([[(PV.int .i64 n156), (PV.int .i64 y26), (PV.int .i64 n162)]] : List (List PV)).length) * 24 ≤ maxBytes then
                      pInst_l4 n l19 (IntKind.i64.wrap (k20 + (1 : Int))) (es21 ++ [[(PV.int .i64 n156), (PV.int .i64 y26), (PV.int .i64 n162)]]) k0
                    else none) (
                    meet (
                      if (es21.length + ([[(PV.int .i64 n156), (PV.int .i64 y26), (PV.int .i64 n162)]] : List (List PV)).length) * 24 ≤ maxBytes then
                        pInst_l4 n l19 (IntKind.i64.wrap (k20 + (1 : Int))) (es21 ++ [[(PV.int .i64 n156), (PV.int .i64 y26), (PV.int .i64 n162)]]) k0
                      else none) (
                      if (es21.length + ([[(PV.int .i64 n156), (PV.int .i64 y26), (PV.int .i64 n162)]] : List (List PV)).length) * 24 ≤ maxBytes then
                        pInst_l4 n l19 (IntKind.i64.wrap (k20 + (1 : Int))) (es21 ++ [[(PV.int .i64 n156), (PV.int .i64 y26), (PV.int .i64 n162)]]) k0
                      else none)))) (
                Option.bind (([[(PV.int .i64 1000)], [(PV.int .i64 200)], [(PV.int .i64 90)], [(PV.int .i64 60)]] : List (List PV))[(Int.toNat y27)]?) fun e163 =>
                Option.bind (e163[0]?) fun c164 =>
                Option.bind (PV.asI .i64 c164) fun n165 =>
                meet (
                  Option.bind (([[(PV.int .i64 20)], [(PV.int .i64 60)], [(PV.int .i64 9)], [(PV.int .i64 30)]] : List (List PV))[(Int.toNat y25)]?) fun e166 =>
                  Option.bind (e166[0]?) fun c167 =>
                  Option.bind (PV.asI .i64 c167) fun n168 =>
                  if (es21.length + ([[(PV.int .i64 n168), (PV.int .i64 y26), (PV.int .i64 n165)]] : List (List PV)).length) * 24 ≤ maxBytes then
                    pInst_l4 n l19 (IntKind.i64.wrap (k20 + (1 : Int))) (es21 ++ [[(PV.int .i64 n168), (PV.int .i64 y26), (PV.int .i64 n165)]]) k0
                  else none) (
                  Option.bind (([[(PV.int .i64 20)], [(PV.int .i64 60)], [(PV.int .i64 9)], [(PV.int .i64 30)]] : List (List PV))[(Int.toNat y25)]?) fun e169 =>
                  Option.bind (e169[0]?) fun c170 =>
                  Option.bind (PV.asI .i64 c170) fun n171 =>
                  meet (
                    if (es21.length + ([[(PV.int .i64 n171), (PV.int .i64 y26), (PV.int .i64 n165)]] : List (List PV)).length) * 24 ≤ maxBytes then
                      pInst_l4 n l19 (IntKind.i64.wrap (k20 + (1 : Int))) (es21 ++ [[(PV.int .i64 n171), (PV.int .i64 y26), (PV.int .i64 n165)]]) k0
                    else none) (
                    meet (
                      if (es21.length + ([[(PV.int .i64 n171), (PV.int .i64 y26), (PV.int .i64 n165)]] : List (List PV)).length) * 24 ≤ maxBytes then
                        pInst_l4 n l19 (IntKind.i64.wrap (k20 + (1 : Int))) (es21 ++ [[(PV.int .i64 n171), (PV.int .i64 y26), (PV.int .i64 n165)]]) k0
                      else none) (
                      if (es21.length + ([[(PV.int .i64 n171), (PV.int .i64 y26), (PV.int .i64 n165)]] : List (List PV)).length) * 24 ≤ maxBytes then
                        pInst_l4 n l19 (IntKind.i64.wrap (k20 + (1 : Int))) (es21 ++ [[(PV.int .i64 n171), (PV.int .i64 y26), (PV.int .i64 n165)]]) k0
                      else none)))))
            else none) (
            Option.bind (([[(PV.int .i64 1000)], [(PV.int .i64 200)], [(PV.int .i64 90)], [(PV.int .i64 60)]] : List (List PV))[(Int.toNat y27)]?) fun e172 =>
            Option.bind (e172[0]?) fun c173 =>
            Option.bind (PV.asI .i64 c173) fun n174 =>
            meet (
              if 0 ≤ y25 ∧ y25 < (4 : Int) then
                Option.bind (([[(PV.int .i64 20)], [(PV.int .i64 60)], [(PV.int .i64 9)], [(PV.int .i64 30)]] : List (List PV))[(Int.toNat y25)]?) fun e175 =>
                Option.bind (e175[0]?) fun c176 =>
                Option.bind (PV.asI .i64 c176) fun n177 =>
                if (es21.length + ([[(PV.int .i64 n177), (PV.int .i64 y26), (PV.int .i64 n174)]] : List (List PV)).length) * 24 ≤ maxBytes then
                  pInst_l4 n l19 (IntKind.i64.wrap (k20 + (1 : Int))) (es21 ++ [[(PV.int .i64 n177), (PV.int .i64 y26), (PV.int .i64 n174)]]) k0
                else none
              else none) (
              if 0 ≤ y25 ∧ y25 < (4 : Int) then
                meet (
                  Option.bind (([[(PV.int .i64 20)], [(PV.int .i64 60)], [(PV.int .i64 9)], [(PV.int .i64 30)]] : List (List PV))[(Int.toNat y25)]?) fun e178 =>
                  Option.bind (e178[0]?) fun c179 =>
                  Option.bind (PV.asI .i64 c179) fun n180 =>
                  if (es21.length + ([[(PV.int .i64 n180), (PV.int .i64 y26), (PV.int .i64 n174)]] : List (List PV)).length) * 24 ≤ maxBytes then
                    pInst_l4 n l19 (IntKind.i64.wrap (k20 + (1 : Int))) (es21 ++ [[(PV.int .i64 n180), (PV.int .i64 y26), (PV.int .i64 n174)]]) k0
                  else none) (
                  Option.bind (([[(PV.int .i64 20)], [(PV.int .i64 60)], [(PV.int .i64 9)], [(PV.int .i64 30)]] : List (List PV))[(Int.toNat y25)]?) fun e181 =>
                  Option.bind (e181[0]?) fun c182 =>
                  Option.bind (PV.asI .i64 c182) fun n183 =>
                  meet (
                    if (es21.length + ([[(PV.int .i64 n183), (PV.int .i64 y26), (PV.int .i64 n174)]] : List (List PV)).length) * 24 ≤ maxBytes then
                      pInst_l4 n l19 (IntKind.i64.wrap (k20 + (1 : Int))) (es21 ++ [[(PV.int .i64 n183), (PV.int .i64 y26), (PV.int .i64 n174)]]) k0
                    else none) (
                    meet (
                      if (es21.length + ([[(PV.int .i64 n183), (PV.int .i64 y26), (PV.int .i64 n174)]] : List (List PV)).length) * 24 ≤ maxBytes then
                        pInst_l4 n l19 (IntKind.i64.wrap (k20 + (1 : Int))) (es21 ++ [[(PV.int .i64 n183), (PV.int .i64 y26), (PV.int .i64 n174)]]) k0
                      else none) (
                      if (es21.length + ([[(PV.int .i64 n183), (PV.int .i64 y26), (PV.int .i64 n174)]] : List (List PV)).length) * 24 ≤ maxBytes then
                        pInst_l4 n l19 (IntKind.i64.wrap (k20 + (1 : Int))) (es21 ++ [[(PV.int .i64 n183), (PV.int .i64 y26), (PV.int .i64 n174)]]) k0
                      else none)))
              else none)))
        else none))) (
      k0 l19 es21)
def pInst_b {R : Type} (n : Nat) (l1 : List (List PV)) (k : List (List PV) → List (List PV) → List (List PV) → List (List PV) → Option R) : Option R :=
  pInst_l4 n l1 0 []
    (fun (l2 : List (List PV)) (es3 : List (List PV)) =>
      Option.bind (pNum_d l2 4) fun y4 =>
      Option.bind (within_d y4 7) fun y5 =>
      pInst_l10 n l2 (IntKind.i64.wrap ((2 : Int) + y5)) 0 es3 []
        (fun (l6 : List (List PV)) (size7 : Int) (es8 : List (List PV)) (es9 : List (List PV)) =>
          pInst_l19 n l6 size7 0 es8 es9 []
            (fun (l10 : List (List PV)) (size11 : Int) (es12 : List (List PV)) (es13 : List (List PV)) (es14 : List (List PV)) =>
              pInst_l28 n l10 size11 0 es12 es13 es14 [] k)))
def pInst_E (y : (List (List PV)) × (List (List PV)) × (List (List PV)) × (List (List PV))) : PV × List PV := ((PV.agg [(PV.fs y.1), (PV.fs y.2.1), (PV.fs y.2.2.1), (PV.fs y.2.2.2)]), [])
def pInst_D : List PV → Option ((List (List PV)) × (List (List PV)) × (List (List PV)) × (List (List PV)))
  | [(PV.fs l1)] => sPInst l1
  | _ => none
def pInst_Γ : List (Nat × Cal) := [(43, .ctr pNum_C), (16, .ctr within_C)]
def pInst_C : Ctr := ⟨[none], (List (List PV)) × (List (List PV)) × (List (List PV)) × (List (List PV)), pInst_D, pInst_E, false, .d⟩
def pInst_cfg : List (Nat × LC) := [(4, ⟨[0, 2, 3, 4, 5], [], [], [(4, 0)]⟩),
  (1004000, ⟨[0, 2, 3, 4], [], [], []⟩),
  (10, ⟨[0, 2, 3, 4, 7, 8], [], [], [(4, 1)]⟩),
  (4000016, ⟨[0, 2, 3, 4, 7, 8, 9, 10], [], [], []⟩),
  (1010002, ⟨[0, 2, 3, 4, 7], [], [], []⟩),
  (5000016, ⟨[0, 2, 3, 4, 7, 8], [], [], []⟩),
  (19, ⟨[0, 2, 3, 4, 7, 11], [], [], [(4, 2)]⟩),
  (4000027, ⟨[0, 2, 3, 4, 7, 11, 12, 13], [], [], []⟩),
  (4000025, ⟨[0, 2, 3, 4, 7, 11, 12, 13], [], [], []⟩),
  (1019004, ⟨[0, 2, 3, 4, 7], [], [], []⟩),
  (5000027, ⟨[0, 2, 3, 4, 7, 11], [], [], []⟩),
  (28, ⟨[0, 2, 3, 4, 7, 15], [], [], [(4, 3)]⟩),
  (32, ⟨[0, 2, 3, 4, 7, 15, 16, 17], [16], [], []⟩),
  (1028006, ⟨[2, 4], [], [], []⟩),
  (1032008, ⟨[0, 2, 3, 4, 7, 15, 16], [], [], []⟩),
  (5000025, ⟨[0, 2, 3, 4, 7, 11], [], [], []⟩)]
def pInst_pat : Nat → Option SP
  | 32 => some ⟨sparse .undef [(0, (.val .fs)), (2, (.ref 0 0)), (3, (.val (.fn 16 []))), (4, (.ref 1 0)), (7, (.val (.int .i64))), (15, (.val (.int .i64))), (16, (.ow 6)), (17, (.val (.int .i64)))] 0 203, [(.box [(.nil 3), (.nil 4), (.nil 2), (.nil 1)]), (.box [(.ow 2), (.ow 3), (.ow 4), (.ow 5)]), (.row 3), (.row 4), (.row 2), (.row 1), (.row 1)], []⟩
  | 28 => some ⟨sparse .undef [(0, (.val .fs)), (2, (.ref 0 0)), (3, (.val (.fn 16 []))), (4, (.ref 1 0)), (7, (.val (.int .i64))), (15, (.val (.int .i64)))] 0 203, [(.box [(.nil 3), (.nil 4), (.nil 2), (.nil 1)]), (.box [(.ow 2), (.ow 3), (.ow 4), (.ow 5)]), (.row 3), (.row 4), (.row 2), (.row 1)], []⟩
  | 19 => some ⟨sparse .undef [(0, (.val .fs)), (2, (.ref 0 0)), (3, (.val (.fn 16 []))), (4, (.ref 1 0)), (7, (.val (.int .i64))), (11, (.val (.int .i64)))] 0 203, [(.box [(.nil 3), (.nil 4), (.nil 2), (.nil 1)]), (.box [(.ow 2), (.ow 3), (.ow 4), (.nil 1)]), (.row 3), (.row 4), (.row 2)], []⟩
  | 10 => some ⟨sparse .undef [(0, (.val .fs)), (2, (.ref 0 0)), (3, (.val (.fn 16 []))), (4, (.ref 1 0)), (7, (.val (.int .i64))), (8, (.val (.int .i64)))] 0 203, [(.box [(.nil 3), (.nil 4), (.nil 2), (.nil 1)]), (.box [(.ow 2), (.ow 3), (.nil 2), (.nil 1)]), (.row 3), (.row 4)], []⟩
  | 4 => some ⟨sparse .undef [(0, (.val .fs)), (2, (.ref 0 0)), (3, (.val (.fn 16 []))), (4, (.ref 1 0)), (5, (.val (.int .i64)))] 0 203, [(.box [(.nil 3), (.nil 4), (.nil 2), (.nil 1)]), (.box [(.ow 2), (.nil 4), (.nil 2), (.nil 1)]), (.row 3)], []⟩
  | _ => none
def pInst_patj : Nat → Option SP
  | 27 => some ⟨sparse .undef [(0, (.val .fs)), (2, (.ref 0 0)), (3, (.val (.fn 16 []))), (4, (.ref 1 0)), (7, (.val (.int .i64))), (11, (.val (.int .i64))), (12, (.val (.int .i64))), (13, (.val (.int .i64)))] 0 203, [(.box [(.nil 3), (.nil 4), (.nil 2), (.nil 1)]), (.box [(.ow 2), (.ow 3), (.ow 4), (.nil 1)]), (.row 3), (.row 4), (.row 2)], []⟩
  | 16 => some ⟨sparse .undef [(0, (.val .fs)), (2, (.ref 0 0)), (3, (.val (.fn 16 []))), (4, (.ref 1 0)), (7, (.val (.int .i64))), (8, (.val (.int .i64))), (9, (.val (.int .i64))), (10, (.ref 4 0))] 0 203, [(.box [(.nil 3), (.nil 4), (.nil 2), (.nil 1)]), (.box [(.ow 2), (.ow 3), (.nil 2), (.nil 1)]), (.row 3), (.row 4), (.pbox (.agg [(.int .i64), (.int .i64), (.int .i64), (.int .i64)]) 4)], []⟩
  | 25 => some ⟨sparse .undef [(0, (.val .fs)), (2, (.ref 0 0)), (3, (.val (.fn 16 []))), (4, (.ref 1 0)), (7, (.val (.int .i64))), (11, (.val (.int .i64))), (12, (.val (.int .i64))), (13, (.val (.int .i64)))] 0 203, [(.box [(.nil 3), (.nil 4), (.nil 2), (.nil 1)]), (.box [(.ow 2), (.ow 3), (.ow 4), (.nil 1)]), (.row 3), (.row 4), (.row 2)], []⟩
  | _ => none
def pInst_L32 (n : Nat) (ls : List Leaf) (R : Type) (k : Ex → St → Option R) : Option R :=
  match ls with
  | [.rows l255, .int size256, .int a257, .int b258, .rows es259, .rows es260, .rows es261, .rows es262, .rows es263] => pInst_l32 n l255 size256 a257 b258 es259 es260 es261 es262 es263 (fun y1326 y1327 y1328 y1329 y1330 y1331 y1332 y1333 => k (.exit 8) ⟨sparse .undef [(0, (TV.val (PV.fs y1326))), (2, (TV.ref 0 0)), (3, (TV.val (PV.fn (Fn.func 16) []))), (4, (TV.ref 1 0)), (7, (TV.val (PV.int .i64 y1327))), (15, (TV.val (PV.int .i64 y1328))), (16, (TV.ow 6))] 0 203, [(Ob.box [(TV.nil 3), (TV.nil 4), (TV.nil 2), (TV.nil 1)]), (Ob.box [(TV.ow 2), (TV.ow 3), (TV.ow 4), (TV.ow 5)]), (Ob.row y1329 3), (Ob.row y1330 4), (Ob.row y1331 2), (Ob.row y1332 1), (Ob.row y1333 1)], []⟩)
  | _ => none
def pInst_J27 (n : Nat) (ls : List Leaf) (R : Type) (k : Ex → St → Option R) : Option R :=
  match ls with
  | [.rows l318, .int size319, .int k320, .int a321, .int b322, .rows es323, .rows es324, .rows es325] => pInst_q27 n l318 size319 k320 a321 b322 es323 es324 es325 (fun y2334 y2335 y2336 y2337 y2338 y2339 => k .normal ⟨sparse .undef [(0, (TV.val (PV.fs y2334))), (2, (TV.ref 0 0)), (3, (TV.val (PV.fn (Fn.func 16) []))), (4, (TV.ref 1 0)), (7, (TV.val (PV.int .i64 y2335))), (11, (TV.val (PV.int .i64 y2336)))] 0 203, [(Ob.box [(TV.nil 3), (TV.nil 4), (TV.nil 2), (TV.nil 1)]), (Ob.box [(TV.ow 2), (TV.ow 3), (TV.ow 4), (TV.nil 1)]), (Ob.row y2337 3), (Ob.row y2338 4), (Ob.row y2339 2)], []⟩)
  | _ => none
def pInst_J16 (n : Nat) (ls : List Leaf) (R : Type) (k : Ex → St → Option R) : Option R :=
  match ls with
  | [.rows l266, .int size267, .int k268, .int n269, .rows es270, .rows es271, .int i272, .int i273, .int i274, .int i275] => pInst_q16 n l266 size267 k268 n269 es270 es271 i272 i273 i274 i275 (fun y3340 y3341 y3342 y3343 y3344 => k .normal ⟨sparse .undef [(0, (TV.val (PV.fs y3340))), (2, (TV.ref 0 0)), (3, (TV.val (PV.fn (Fn.func 16) []))), (4, (TV.ref 1 0)), (7, (TV.val (PV.int .i64 y3341))), (8, (TV.val (PV.int .i64 y3342)))] 0 203, [(Ob.box [(TV.nil 3), (TV.nil 4), (TV.nil 2), (TV.nil 1)]), (Ob.box [(TV.ow 2), (TV.ow 3), (TV.nil 2), (TV.nil 1)]), (Ob.row y3343 3), (Ob.row y3344 4)], []⟩)
  | _ => none
def pInst_J25 (n : Nat) (ls : List Leaf) (R : Type) (k : Ex → St → Option R) : Option R :=
  match ls with
  | [.rows l278, .int size279, .int k280, .int a281, .int b282, .rows es283, .rows es284, .rows es285] => pInst_q25 n l278 size279 k280 a281 b282 es283 es284 es285 (fun y4345 y4346 y4347 y4348 y4349 y4350 => k .normal ⟨sparse .undef [(0, (TV.val (PV.fs y4345))), (2, (TV.ref 0 0)), (3, (TV.val (PV.fn (Fn.func 16) []))), (4, (TV.ref 1 0)), (7, (TV.val (PV.int .i64 y4346))), (11, (TV.val (PV.int .i64 y4347)))] 0 203, [(Ob.box [(TV.nil 3), (TV.nil 4), (TV.nil 2), (TV.nil 1)]), (Ob.box [(TV.ow 2), (TV.ow 3), (TV.ow 4), (TV.nil 1)]), (Ob.row y4348 3), (Ob.row y4349 4), (Ob.row y4350 2)], []⟩)
  | _ => none
def pInst_L28 (n : Nat) (ls : List Leaf) (R : Type) (k : Ex → St → Option R) : Option R :=
  match ls with
  | [.rows l240, .int size241, .int a242, .rows es243, .rows es244, .rows es245, .rows es246] => pInst_l28 n l240 size241 a242 es243 es244 es245 es246 (fun y5351 y5352 y5353 y5354 => k (.exit 6) ⟨sparse .undef [(2, (TV.ref 0 0)), (4, (TV.ref 1 0))] 0 203, [(Ob.box [(TV.nil 3), (TV.nil 4), (TV.nil 2), (TV.nil 1)]), (Ob.box [(TV.ow 2), (TV.ow 3), (TV.ow 4), (TV.ow 5)]), (Ob.row y5351 3), (Ob.row y5352 4), (Ob.row y5353 2), (Ob.row y5354 1)], []⟩)
  | _ => none
def pInst_L19 (n : Nat) (ls : List Leaf) (R : Type) (k : Ex → St → Option R) : Option R :=
  match ls with
  | [.rows l218, .int size219, .int k220, .rows es221, .rows es222, .rows es223] => pInst_l19 n l218 size219 k220 es221 es222 es223 (fun y6355 y6356 y6357 y6358 y6359 => k (.exit 4) ⟨sparse .undef [(0, (TV.val (PV.fs y6355))), (2, (TV.ref 0 0)), (3, (TV.val (PV.fn (Fn.func 16) []))), (4, (TV.ref 1 0)), (7, (TV.val (PV.int .i64 y6356)))] 0 203, [(Ob.box [(TV.nil 3), (TV.nil 4), (TV.nil 2), (TV.nil 1)]), (Ob.box [(TV.ow 2), (TV.ow 3), (TV.ow 4), (TV.nil 1)]), (Ob.row y6357 3), (Ob.row y6358 4), (Ob.row y6359 2)], []⟩)
  | _ => none
def pInst_L10 (n : Nat) (ls : List Leaf) (R : Type) (k : Ex → St → Option R) : Option R :=
  match ls with
  | [.rows l184, .int size185, .int k186, .rows es187, .rows es188] => pInst_l10 n l184 size185 k186 es187 es188 (fun y7360 y7361 y7362 y7363 => k (.exit 2) ⟨sparse .undef [(0, (TV.val (PV.fs y7360))), (2, (TV.ref 0 0)), (3, (TV.val (PV.fn (Fn.func 16) []))), (4, (TV.ref 1 0)), (7, (TV.val (PV.int .i64 y7361)))] 0 203, [(Ob.box [(TV.nil 3), (TV.nil 4), (TV.nil 2), (TV.nil 1)]), (Ob.box [(TV.ow 2), (TV.ow 3), (TV.nil 2), (TV.nil 1)]), (Ob.row y7362 3), (Ob.row y7363 4)], []⟩)
  | _ => none
def pInst_L4 (n : Nat) (ls : List Leaf) (R : Type) (k : Ex → St → Option R) : Option R :=
  match ls with
  | [.rows l19, .int k20, .rows es21] => pInst_l4 n l19 k20 es21 (fun y8364 y8365 => k (.exit 0) ⟨sparse .undef [(0, (TV.val (PV.fs y8364))), (2, (TV.ref 0 0)), (3, (TV.val (PV.fn (Fn.func 16) []))), (4, (TV.ref 1 0))] 0 203, [(Ob.box [(TV.nil 3), (TV.nil 4), (TV.nil 2), (TV.nil 1)]), (Ob.box [(TV.ow 2), (TV.nil 4), (TV.nil 2), (TV.nil 1)]), (Ob.row y8365 3)], []⟩)
  | _ => none
def pInst_L (n key : Nat) (ls : List Leaf) (R : Type) (k : Ex → St → Option R) : Option R :=
  match key with
  | 32 => pInst_L32 n ls R k
  | 28 => pInst_L28 n ls R k
  | 19 => pInst_L19 n ls R k
  | 10 => pInst_L10 n ls R k
  | 4 => pInst_L4 n ls R k
  | _ => none
def pInst_J (n key : Nat) (ls : List Leaf) (R : Type) (k : Ex → St → Option R) : Option R :=
  match key with
  | 27 => pInst_J27 n ls R k
  | 16 => pInst_J16 n ls R k
  | 25 => pInst_J25 n ls R k
  | _ => none
def pInst_on : Code → Bool := onKeys [16, 25, 27]
def pInst_Λ : Nat → Loops := patL (normBy pInst_cfg) pInst_pat pInst_L (normJ pInst_cfg) pInst_on pInst_patj pInst_J
theorem pInst_step4 (n : Nat) (l19 : List (List PV)) (k20 : Int) (es21 : List (List PV))  (R : Type) (k : Ex → St → Option R) :
    roundK T G0 (ctrOf pInst_Γ) (normBy pInst_cfg) (pInst_Λ n) (codeAt [1, 1, 1, 0, 1, 0, 0] (bodyOf Tryd.f22)) (buildSt ⟨sparse .undef [(0, (.val .fs)), (2, (.ref 0 0)), (3, (.val (.fn 16 []))), (4, (.ref 1 0)), (5, (.val (.int .i64)))] 0 203, [(.box [(.nil 3), (.nil 4), (.nil 2), (.nil 1)]), (.box [(.ow 2), (.nil 4), (.nil 2), (.nil 1)]), (.row 3)], []⟩ [.rows l19, .int k20, .rows es21]) R k = pInst_L4 (n + 1) [.rows l19, .int k20, .rows es21] R k := by kernel_rfl
theorem pInst_step10 (n : Nat) (l184 : List (List PV)) (size185 : Int) (k186 : Int) (es187 : List (List PV)) (es188 : List (List PV))  (R : Type) (k : Ex → St → Option R) :
    roundK T G0 (ctrOf pInst_Γ) (normBy pInst_cfg) (pInst_Λ n) (codeAt [1, 1, 1, 1, 1, 0, 1, 0, 0] (bodyOf Tryd.f22)) (buildSt ⟨sparse .undef [(0, (.val .fs)), (2, (.ref 0 0)), (3, (.val (.fn 16 []))), (4, (.ref 1 0)), (7, (.val (.int .i64))), (8, (.val (.int .i64)))] 0 203, [(.box [(.nil 3), (.nil 4), (.nil 2), (.nil 1)]), (.box [(.ow 2), (.ow 3), (.nil 2), (.nil 1)]), (.row 3), (.row 4)], []⟩ [.rows l184, .int size185, .int k186, .rows es187, .rows es188]) R k = pInst_L10 (n + 1) [.rows l184, .int size185, .int k186, .rows es187, .rows es188] R k := by kernel_rfl
theorem pInst_step19 (n : Nat) (l218 : List (List PV)) (size219 : Int) (k220 : Int) (es221 : List (List PV)) (es222 : List (List PV)) (es223 : List (List PV))  (R : Type) (k : Ex → St → Option R) :
    roundK T G0 (ctrOf pInst_Γ) (normBy pInst_cfg) (pInst_Λ n) (codeAt [1, 1, 1, 1, 1, 1, 0, 1, 0, 0] (bodyOf Tryd.f22)) (buildSt ⟨sparse .undef [(0, (.val .fs)), (2, (.ref 0 0)), (3, (.val (.fn 16 []))), (4, (.ref 1 0)), (7, (.val (.int .i64))), (11, (.val (.int .i64)))] 0 203, [(.box [(.nil 3), (.nil 4), (.nil 2), (.nil 1)]), (.box [(.ow 2), (.ow 3), (.ow 4), (.nil 1)]), (.row 3), (.row 4), (.row 2)], []⟩ [.rows l218, .int size219, .int k220, .rows es221, .rows es222, .rows es223]) R k = pInst_L19 (n + 1) [.rows l218, .int size219, .int k220, .rows es221, .rows es222, .rows es223] R k := by kernel_rfl
theorem pInst_step28 (n : Nat) (l240 : List (List PV)) (size241 : Int) (a242 : Int) (es243 : List (List PV)) (es244 : List (List PV)) (es245 : List (List PV)) (es246 : List (List PV))  (R : Type) (k : Ex → St → Option R) :
    roundK T G0 (ctrOf pInst_Γ) (normBy pInst_cfg) (pInst_Λ n) (codeAt [1, 1, 1, 1, 1, 1, 1, 0, 1, 0, 0] (bodyOf Tryd.f22)) (buildSt ⟨sparse .undef [(0, (.val .fs)), (2, (.ref 0 0)), (3, (.val (.fn 16 []))), (4, (.ref 1 0)), (7, (.val (.int .i64))), (15, (.val (.int .i64)))] 0 203, [(.box [(.nil 3), (.nil 4), (.nil 2), (.nil 1)]), (.box [(.ow 2), (.ow 3), (.ow 4), (.ow 5)]), (.row 3), (.row 4), (.row 2), (.row 1)], []⟩ [.rows l240, .int size241, .int a242, .rows es243, .rows es244, .rows es245, .rows es246]) R k = pInst_L28 (n + 1) [.rows l240, .int size241, .int a242, .rows es243, .rows es244, .rows es245, .rows es246] R k := by kernel_rfl
theorem pInst_step32 (n : Nat) (l255 : List (List PV)) (size256 : Int) (a257 : Int) (b258 : Int) (es259 : List (List PV)) (es260 : List (List PV)) (es261 : List (List PV)) (es262 : List (List PV)) (es263 : List (List PV))  (R : Type) (k : Ex → St → Option R) :
    roundK T G0 (ctrOf pInst_Γ) (normBy pInst_cfg) (pInst_Λ n) (codeAt [1, 1, 1, 1, 1, 1, 1, 0, 1, 0, 0, 1, 0, 0, 1, 0, 1, 0, 0] (bodyOf Tryd.f22)) (buildSt ⟨sparse .undef [(0, (.val .fs)), (2, (.ref 0 0)), (3, (.val (.fn 16 []))), (4, (.ref 1 0)), (7, (.val (.int .i64))), (15, (.val (.int .i64))), (16, (.ow 6)), (17, (.val (.int .i64)))] 0 203, [(.box [(.nil 3), (.nil 4), (.nil 2), (.nil 1)]), (.box [(.ow 2), (.ow 3), (.ow 4), (.ow 5)]), (.row 3), (.row 4), (.row 2), (.row 1), (.row 1)], []⟩ [.rows l255, .int size256, .int a257, .int b258, .rows es259, .rows es260, .rows es261, .rows es262, .rows es263]) R k = pInst_L32 (n + 1) [.rows l255, .int size256, .int a257, .int b258, .rows es259, .rows es260, .rows es261, .rows es262, .rows es263] R k := by kernel_rfl
theorem pInst_stepq16 (n : Nat) (l266 : List (List PV)) (size267 : Int) (k268 : Int) (n269 : Int) (es270 : List (List PV)) (es271 : List (List PV)) (i272 : Int) (i273 : Int) (i274 : Int) (i275 : Int)  (R : Type) (k : Ex → St → Option R) :
    joinK T G0 (ctrOf pInst_Γ) (normJ pInst_cfg) (pInst_Λ n) (codeAt [1, 1, 1, 1, 1, 0, 1, 0, 0, 1, 0, 0, 1, 1, 1] (bodyOf Tryd.f22)) (buildSt ⟨sparse .undef [(0, (.val .fs)), (2, (.ref 0 0)), (3, (.val (.fn 16 []))), (4, (.ref 1 0)), (7, (.val (.int .i64))), (8, (.val (.int .i64))), (9, (.val (.int .i64))), (10, (.ref 4 0))] 0 203, [(.box [(.nil 3), (.nil 4), (.nil 2), (.nil 1)]), (.box [(.ow 2), (.ow 3), (.nil 2), (.nil 1)]), (.row 3), (.row 4), (.pbox (.agg [(.int .i64), (.int .i64), (.int .i64), (.int .i64)]) 4)], []⟩ [.rows l266, .int size267, .int k268, .int n269, .rows es270, .rows es271, .int i272, .int i273, .int i274, .int i275]) R k = pInst_J16 n [.rows l266, .int size267, .int k268, .int n269, .rows es270, .rows es271, .int i272, .int i273, .int i274, .int i275] R k := by kernel_rfl
theorem pInst_stepq25 (n : Nat) (l278 : List (List PV)) (size279 : Int) (k280 : Int) (a281 : Int) (b282 : Int) (es283 : List (List PV)) (es284 : List (List PV)) (es285 : List (List PV))  (R : Type) (k : Ex → St → Option R) :
    joinK T G0 (ctrOf pInst_Γ) (normJ pInst_cfg) (pInst_Λ n) (codeAt [1, 1, 1, 1, 1, 1, 0, 1, 0, 0, 1, 0, 0, 1, 1] (bodyOf Tryd.f22)) (buildSt ⟨sparse .undef [(0, (.val .fs)), (2, (.ref 0 0)), (3, (.val (.fn 16 []))), (4, (.ref 1 0)), (7, (.val (.int .i64))), (11, (.val (.int .i64))), (12, (.val (.int .i64))), (13, (.val (.int .i64)))] 0 203, [(.box [(.nil 3), (.nil 4), (.nil 2), (.nil 1)]), (.box [(.ow 2), (.ow 3), (.ow 4), (.nil 1)]), (.row 3), (.row 4), (.row 2)], []⟩ [.rows l278, .int size279, .int k280, .int a281, .int b282, .rows es283, .rows es284, .rows es285]) R k = pInst_J25 n [.rows l278, .int size279, .int k280, .int a281, .int b282, .rows es283, .rows es284, .rows es285] R k := by kernel_rfl
theorem pInst_stepq27 (n : Nat) (l318 : List (List PV)) (size319 : Int) (k320 : Int) (a321 : Int) (b322 : Int) (es323 : List (List PV)) (es324 : List (List PV)) (es325 : List (List PV))  (R : Type) (k : Ex → St → Option R) :
    joinK T G0 (ctrOf pInst_Γ) (normJ pInst_cfg) (pInst_Λ n) (codeAt [1, 1, 1, 1, 1, 1, 0, 1, 0, 0, 1, 0, 0, 1, 1, 1, 1] (bodyOf Tryd.f22)) (buildSt ⟨sparse .undef [(0, (.val .fs)), (2, (.ref 0 0)), (3, (.val (.fn 16 []))), (4, (.ref 1 0)), (7, (.val (.int .i64))), (11, (.val (.int .i64))), (12, (.val (.int .i64))), (13, (.val (.int .i64)))] 0 203, [(.box [(.nil 3), (.nil 4), (.nil 2), (.nil 1)]), (.box [(.ow 2), (.ow 3), (.ow 4), (.nil 1)]), (.row 3), (.row 4), (.row 2)], []⟩ [.rows l318, .int size319, .int k320, .int a321, .int b322, .rows es323, .rows es324, .rows es325]) R k = pInst_J27 n [.rows l318, .int size319, .int k320, .int a321, .int b322, .rows es323, .rows es324, .rows es325] R k := by kernel_rfl
theorem pInst_eq (n : Nat) (l1 : List (List PV)) :
    funK T G0 (ctrOf pInst_Γ) (pInst_Λ n) .d false [none] (funOf Tryd.f22) [(PV.fs l1)] = pInst_b n  l1 (fun a0 a1 a2 a3 => some (pInst_E (a0, a1, a2, a3))) := by kernel_rfl
theorem pInst_inv {ps : List PV} {y : (List (List PV)) × (List (List PV)) × (List (List PV)) × (List (List PV))} (h : pInst_D ps = some y) : ∃ (l1 : List (List PV)), ps = [(PV.fs l1)] := by
  unfold pInst_D at h
  split at h
  · exact ⟨_, rfl⟩
  · cases h
theorem pInst_loops : loopsOf (bodyOf Tryd.f22) = [codeAt [1, 1, 1, 0, 1, 0, 0] (bodyOf Tryd.f22), codeAt [1, 1, 1, 1, 1, 0, 1, 0, 0] (bodyOf Tryd.f22), codeAt [1, 1, 1, 1, 1, 1, 0, 1, 0, 0] (bodyOf Tryd.f22), codeAt [1, 1, 1, 1, 1, 1, 1, 0, 1, 0, 0] (bodyOf Tryd.f22), codeAt [1, 1, 1, 1, 1, 1, 1, 0, 1, 0, 0, 1, 0, 0, 1, 0, 1, 0, 0] (bodyOf Tryd.f22)] := by kernel_rfl
theorem pInst_joins : (joinsOf (bodyOf Tryd.f22)).filter pInst_on = [codeAt [1, 1, 1, 1, 1, 0, 1, 0, 0, 1, 0, 0, 1, 1, 1] (bodyOf Tryd.f22), codeAt [1, 1, 1, 1, 1, 1, 0, 1, 0, 0, 1, 0, 0, 1, 1] (bodyOf Tryd.f22), codeAt [1, 1, 1, 1, 1, 1, 0, 1, 0, 0, 1, 0, 0, 1, 1, 1, 1] (bodyOf Tryd.f22)] := by kernel_rfl
theorem pInst_holds (hΓ : HoldsAll Tryd.prog G0 pInst_Γ) (hok : ∀ (l1 : List (List PV)) (y : (List (List PV)) × (List (List PV)) × (List (List PV)) × (List (List PV))), sPInst l1 = some y → ∃ n, ∀ (R : Type) (k : List (List PV) → List (List PV) → List (List PV) → List (List PV) → Option R), pInst_b n  l1 k = k y.1 y.2.1 y.2.2.1 y.2.2.2) : Holds Tryd.prog G0 22 pInst_C := by
  refine fun_pat mixed tOk (ctrOf_ok hΓ) Tryd.func22 rfl rfl rfl rfl (F := funOf Tryd.f22) (normBy_ok pInst_cfg) (pat := pInst_pat) (L := pInst_L) (normJ_ok pInst_cfg) (on := pInst_on) (patj := pInst_patj) (J := pInst_J) (fun c hc ls R k => ?_) (fun c hc p hp m ls R k r h => ?_) (fun c hc p hp m ls R k r h => ?_) (fun ps x h => ?_)
  · rw [show (funOf Tryd.f22).code = bodyOf Tryd.f22 from rfl, pInst_loops] at hc
    simp only [List.mem_cons, List.not_mem_nil, or_false] at hc
    rcases hc with rfl | rfl | rfl | rfl | rfl
    · show pInst_L4 0 ls R k = none
      unfold pInst_L4
      split
      · rfl
      · rfl
    · show pInst_L10 0 ls R k = none
      unfold pInst_L10
      split
      · rfl
      · rfl
    · show pInst_L19 0 ls R k = none
      unfold pInst_L19
      split
      · rfl
      · rfl
    · show pInst_L28 0 ls R k = none
      unfold pInst_L28
      split
      · rfl
      · rfl
    · show pInst_L32 0 ls R k = none
      unfold pInst_L32
      split
      · rfl
      · rfl
  · rw [show (funOf Tryd.f22).code = bodyOf Tryd.f22 from rfl, pInst_loops] at hc
    simp only [List.mem_cons, List.not_mem_nil, or_false] at hc
    rcases hc with rfl | rfl | rfl | rfl | rfl
    · have hp' : p = ⟨sparse .undef [(0, (.val .fs)), (2, (.ref 0 0)), (3, (.val (.fn 16 []))), (4, (.ref 1 0)), (5, (.val (.int .i64)))] 0 203, [(.box [(.nil 3), (.nil 4), (.nil 2), (.nil 1)]), (.box [(.ow 2), (.nil 4), (.nil 2), (.nil 1)]), (.row 3)], []⟩ := (Option.some.inj (hp : some _ = some p)).symm
      subst hp'
      change pInst_L4 (m + 1) ls R k = some r at h
      have h' := h
      unfold pInst_L4 at h'
      split at h'
      · exact (pInst_step4 m _ _ _ R k).trans h
      · cases h'
    · have hp' : p = ⟨sparse .undef [(0, (.val .fs)), (2, (.ref 0 0)), (3, (.val (.fn 16 []))), (4, (.ref 1 0)), (7, (.val (.int .i64))), (8, (.val (.int .i64)))] 0 203, [(.box [(.nil 3), (.nil 4), (.nil 2), (.nil 1)]), (.box [(.ow 2), (.ow 3), (.nil 2), (.nil 1)]), (.row 3), (.row 4)], []⟩ := (Option.some.inj (hp : some _ = some p)).symm
      subst hp'
      change pInst_L10 (m + 1) ls R k = some r at h
      have h' := h
      unfold pInst_L10 at h'
      split at h'
      · exact (pInst_step10 m _ _ _ _ _ R k).trans h
      · cases h'
    · have hp' : p = ⟨sparse .undef [(0, (.val .fs)), (2, (.ref 0 0)), (3, (.val (.fn 16 []))), (4, (.ref 1 0)), (7, (.val (.int .i64))), (11, (.val (.int .i64)))] 0 203, [(.box [(.nil 3), (.nil 4), (.nil 2), (.nil 1)]), (.box [(.ow 2), (.ow 3), (.ow 4), (.nil 1)]), (.row 3), (.row 4), (.row 2)], []⟩ := (Option.some.inj (hp : some _ = some p)).symm
      subst hp'
      change pInst_L19 (m + 1) ls R k = some r at h
      have h' := h
      unfold pInst_L19 at h'
      split at h'
      · exact (pInst_step19 m _ _ _ _ _ _ R k).trans h
      · cases h'
    · have hp' : p = ⟨sparse .undef [(0, (.val .fs)), (2, (.ref 0 0)), (3, (.val (.fn 16 []))), (4, (.ref 1 0)), (7, (.val (.int .i64))), (15, (.val (.int .i64)))] 0 203, [(.box [(.nil 3), (.nil 4), (.nil 2), (.nil 1)]), (.box [(.ow 2), (.ow 3), (.ow 4), (.ow 5)]), (.row 3), (.row 4), (.row 2), (.row 1)], []⟩ := (Option.some.inj (hp : some _ = some p)).symm
      subst hp'
      change pInst_L28 (m + 1) ls R k = some r at h
      have h' := h
      unfold pInst_L28 at h'
      split at h'
      · exact (pInst_step28 m _ _ _ _ _ _ _ R k).trans h
      · cases h'
    · have hp' : p = ⟨sparse .undef [(0, (.val .fs)), (2, (.ref 0 0)), (3, (.val (.fn 16 []))), (4, (.ref 1 0)), (7, (.val (.int .i64))), (15, (.val (.int .i64))), (16, (.ow 6)), (17, (.val (.int .i64)))] 0 203, [(.box [(.nil 3), (.nil 4), (.nil 2), (.nil 1)]), (.box [(.ow 2), (.ow 3), (.ow 4), (.ow 5)]), (.row 3), (.row 4), (.row 2), (.row 1), (.row 1)], []⟩ := (Option.some.inj (hp : some _ = some p)).symm
      subst hp'
      change pInst_L32 (m + 1) ls R k = some r at h
      have h' := h
      unfold pInst_L32 at h'
      split at h'
      · exact (pInst_step32 m _ _ _ _ _ _ _ _ _ R k).trans h
      · cases h'
  · rw [show (funOf Tryd.f22).code = bodyOf Tryd.f22 from rfl, pInst_joins] at hc
    simp only [List.mem_cons, List.not_mem_nil, or_false] at hc
    rcases hc with rfl | rfl | rfl
    · have hp' : p = ⟨sparse .undef [(0, (.val .fs)), (2, (.ref 0 0)), (3, (.val (.fn 16 []))), (4, (.ref 1 0)), (7, (.val (.int .i64))), (8, (.val (.int .i64))), (9, (.val (.int .i64))), (10, (.ref 4 0))] 0 203, [(.box [(.nil 3), (.nil 4), (.nil 2), (.nil 1)]), (.box [(.ow 2), (.ow 3), (.nil 2), (.nil 1)]), (.row 3), (.row 4), (.pbox (.agg [(.int .i64), (.int .i64), (.int .i64), (.int .i64)]) 4)], []⟩ := (Option.some.inj (hp : some _ = some p)).symm
      subst hp'
      change pInst_J16 m ls R k = some r at h
      have h' := h
      unfold pInst_J16 at h'
      split at h'
      · exact (pInst_stepq16 m _ _ _ _ _ _ _ _ _ _ R k).trans h
      · cases h'
    · have hp' : p = ⟨sparse .undef [(0, (.val .fs)), (2, (.ref 0 0)), (3, (.val (.fn 16 []))), (4, (.ref 1 0)), (7, (.val (.int .i64))), (11, (.val (.int .i64))), (12, (.val (.int .i64))), (13, (.val (.int .i64)))] 0 203, [(.box [(.nil 3), (.nil 4), (.nil 2), (.nil 1)]), (.box [(.ow 2), (.ow 3), (.ow 4), (.nil 1)]), (.row 3), (.row 4), (.row 2)], []⟩ := (Option.some.inj (hp : some _ = some p)).symm
      subst hp'
      change pInst_J25 m ls R k = some r at h
      have h' := h
      unfold pInst_J25 at h'
      split at h'
      · exact (pInst_stepq25 m _ _ _ _ _ _ _ _ R k).trans h
      · cases h'
    · have hp' : p = ⟨sparse .undef [(0, (.val .fs)), (2, (.ref 0 0)), (3, (.val (.fn 16 []))), (4, (.ref 1 0)), (7, (.val (.int .i64))), (11, (.val (.int .i64))), (12, (.val (.int .i64))), (13, (.val (.int .i64)))] 0 203, [(.box [(.nil 3), (.nil 4), (.nil 2), (.nil 1)]), (.box [(.ow 2), (.ow 3), (.ow 4), (.nil 1)]), (.row 3), (.row 4), (.row 2)], []⟩ := (Option.some.inj (hp : some _ = some p)).symm
      subst hp'
      change pInst_J27 m ls R k = some r at h
      have h' := h
      unfold pInst_J27 at h'
      split at h'
      · exact (pInst_stepq27 m _ _ _ _ _ _ _ _ R k).trans h
      · cases h'
  · obtain ⟨y, hy, hx⟩ := bind_inv h
    cases hx
    obtain ⟨l1, rfl⟩ := pInst_inv hy
    obtain ⟨n, hn⟩ := hok l1 y hy
    exact ⟨n, (pInst_eq n l1).trans (hn _ _)⟩
end
end Go.Proofs.YtkeklbicmfhemaaDoorV
namespace Go.Proofs.YtkeklbicmfhemaaDoorV
open Go
set_option maxRecDepth 20000
set_option linter.unusedSimpArgs false
theorem wn_bounds (n : Int) {m : Nat} (h : 0 < m) : 0 ≤ wn n m ∧ wn n m < m := ⟨Int.emod_nonneg _ (by omega), Int.emod_lt_of_pos _ (by omega)⟩
theorem within_wn (n : Int) (m : Nat) (h : 0 < m) (h' : m < 1000000) : within_d n (m : Int) = some (wn n m) := within_val n (by omega) (by omega)
theorem w_2 (n : Int) : within_d n 2 = some (wn n 2) := within_wn n 2 (by omega) (by omega)
theorem w_3 (n : Int) : within_d n 3 = some (wn n 3) := within_wn n 3 (by omega) (by omega)
theorem w_4 (n : Int) : within_d n 4 = some (wn n 4) := within_wn n 4 (by omega) (by omega)
theorem w_6 (n : Int) : within_d n 6 = some (wn n 6) := within_wn n 6 (by omega) (by omega)
theorem w_7 (n : Int) : within_d n 7 = some (wn n 7) := within_wn n 7 (by omega) (by omega)
theorem w_8 (n : Int) : within_d n 8 = some (wn n 8) := within_wn n 8 (by omega) (by omega)
theorem w_9 (n : Int) : within_d n 9 = some (wn n 9) := within_wn n 9 (by omega) (by omega)
theorem w_11 (n : Int) : within_d n 11 = some (wn n 11) := within_wn n 11 (by omega) (by omega)
theorem w_12 (n : Int) : within_d n 12 = some (wn n 12) := within_wn n 12 (by omega) (by omega)
theorem w_14 (n : Int) : within_d n 14 = some (wn n 14) := within_wn n 14 (by omega) (by omega)
theorem w_17 (n : Int) : within_d n 17 = some (wn n 17) := within_wn n 17 (by omega) (by omega)
theorem w_20 (n : Int) : within_d n 20 = some (wn n 20) := within_wn n 20 (by omega) (by omega)
theorem w_30 (n : Int) : within_d n 30 = some (wn n 30) := within_wn n 30 (by omega) (by omega)
theorem w_40 (n : Int) : within_d n 40 = some (wn n 40) := within_wn n 40 (by omega) (by omega)
theorem w_1000 (n : Int) : within_d n 1000 = some (wn n 1000) := within_wn n 1000 (by omega) (by omega)
theorem asI_int (n : Int) : PV.asI .i64 (.int .i64 n) = some n := rfl
theorem asFs_fs (es : List (List PV)) : PV.asFs (.fs es) = some es := rfl
theorem idx_iAt {l : List Int} {j : Nat} (h : j < l.length) : idx (iRow l) (j : Int) = some [PV.int .i64 (l.getD j 0)] := by
  rw [idx_nat, iRow, List.getElem?_map, List.getElem?_eq_getElem h, List.getD_eq_getElem?_getD, List.getElem?_eq_getElem h]
  rfl
theorem pNum_ok {l : List Int} (hl : l.length ≤ big) (k : Nat) (hk : k ≤ 1000) : pNum_d (iRow l) (k : Int) = some (numV l k) := by
  unfold pNum_d pNum_b numV
  rw [iRow_length]
  unfold big at hl
  by_cases h0 : l = []
  · subst h0
    rw [if_pos rfl, show (((([] : List Int).length : Nat) : Int) == 0) = true from rfl, cond_true]
    rfl
  · have hpos : 0 < l.length := List.length_pos_iff.2 h0
    rw [if_neg h0, show (((l.length : Nat) : Int) == 0) = false by rw [beq_eq_false_iff_ne]; omega, cond_false, if_neg (by omega)]
    have e1 : Int.tmod (k : Int) (l.length : Int) = ((k % l.length : Nat) : Int) := by rw [Int.tmod_eq_emod_of_nonneg (by omega)]; rfl
    have e2 : Int.tdiv (k : Int) (l.length : Int) = ((k / l.length : Nat) : Int) := by rw [Int.tdiv_eq_ediv_of_nonneg (by omega)]; rfl
    have hm : k % l.length < l.length := Nat.mod_lt _ hpos
    have hd : k / l.length ≤ k := Nat.div_le_self _ _
    rw [e1, e2, idx_iAt hm]
    generalize k / l.length = j at hd
    generalize k % l.length = i at hm
    have hw : IntKind.i64.wrap (j : Int) = (j : Int) := wrapN (by omega) (by omega)
    have hw1 : IntKind.i64.wrap (1 + (j : Int)) = 1 + (j : Int) := wrapN (by omega) (by omega)
    simp only [Option.bind_some, List.length_singleton, if_true, List.getElem?_cons_zero, asI_int, w64, hw, hw1]
    rw [if_neg (by omega), if_neg (by omega), if_neg (by omega)]
theorem tab_cap : ∀ y : Int, 0 ≤ y → y < 4 → (([[(PV.int .i64 20)], [(PV.int .i64 60)], [(PV.int .i64 9)], [(PV.int .i64 30)]] : List (List PV))[Int.toNat y]?) = some [PV.int .i64 (([20, 60, 9, 30] : List Int).getD y.toNat 0)] := by
  intro y h0 h4
  have : y = 0 ∨ y = 1 ∨ y = 2 ∨ y = 3 := by omega
  rcases this with rfl | rfl | rfl | rfl <;> rfl
theorem tab_end : ∀ y : Int, 0 ≤ y → y < 4 → (([[(PV.int .i64 1000)], [(PV.int .i64 200)], [(PV.int .i64 90)], [(PV.int .i64 60)]] : List (List PV))[Int.toNat y]?) = some [PV.int .i64 (([1000, 200, 90, 60] : List Int).getD y.toNat 0)] := by
  intro y h0 h4
  have : y = 0 ∨ y = 1 ∨ y = 2 ∨ y = 3 := by omega
  rcases this with rfl | rfl | rfl | rfl <;> rfl
theorem tab_close : ∀ y : Int, 0 ≤ y → y < 4 → (([[(PV.int .i64 900)], [(PV.int .i64 60)], [(PV.int .i64 25)], [(PV.int .i64 8)]] : List (List PV))[Int.toNat y]?) = some [PV.int .i64 (([900, 60, 25, 8] : List Int).getD y.toNat 0)] := by
  intro y h0 h4
  have : y = 0 ∨ y = 1 ∨ y = 2 ∨ y = 3 := by omega
  rcases this with rfl | rfl | rfl | rfl <;> rfl
theorem close_small (y : Int) : 0 ≤ ([900, 60, 25, 8] : List Int).getD y.toNat 0 ∧ ([900, 60, 25, 8] : List Int).getD y.toNat 0 ≤ 900 := by
  generalize y.toNat = j
  match j with
  | 0 => decide
  | 1 => decide
  | 2 => decide
  | 3 => decide
  | j + 4 => simp
theorem range_snoc {α : Type} (f : Nat → α) (k : Nat) : (List.range k).map f ++ [f k] = (List.range (k + 1)).map f := by rw [List.range_succ, List.map_append]; rfl
theorem carRow_append (a b : List Car) : carRow (a ++ b) = carRow a ++ carRow b := by simp [carRow]
theorem stpRow_append (a b : List Stp) : stpRow (a ++ b) = stpRow a ++ stpRow b := by simp [stpRow]
theorem prRow_append (a b : List (Int × Int)) : prRow (a ++ b) = prRow a ++ prRow b := by simp [prRow]
theorem trRow_append (a b : List (List Int)) : trRow (a ++ b) = trRow a ++ trRow b := by simp [trRow]
theorem iRow_append (a b : List Int) : iRow (a ++ b) = iRow a ++ iRow b := by simp [iRow]
theorem cars_rounds {R : Type} {l : List Int} (hl : l.length ≤ big) (k0 : List (List PV) → List (List PV) → Option R) : ∀ (f k n : Nat), k + f = 1 + (wn (numV l 0) 3).toNat → f < n →
    pInst_l4 n (iRow l) (k : Int) (carRow ((List.range k).map (carAt l))) k0 = k0 (iRow l) (carRow (carsOf l))
  | f, k, n, hk, hn => by
    obtain ⟨m, rfl⟩ : ∃ m, n = m + 1 := ⟨n - 1, by omega⟩
    have hb := wn_bounds (numV l 0) (m := 3) (by omega)
    unfold pInst_l4
    have p0 : pNum_d (iRow l) 0 = some (numV l 0) := pNum_ok hl 0 (by omega)
    rw [p0, Option.bind_some, w_3, Option.bind_some, wrapN (by omega) (by omega)]
    cases f with
    | zero =>
      rw [decide_eq_false (by omega), cond_false]
      unfold carsOf
      rw [show k = 1 + (wn (numV l 0) 3).toNat by omega]
    | succ f =>
      rw [decide_eq_true (by omega), cond_true, wrapN (n := 1 + (k : Int)) (by omega) (by omega), show (1 + (k : Int)) = ((1 + k : Nat) : Int) by omega, pNum_ok hl (1 + k) (by omega), Option.bind_some]
      have ih := cars_rounds hl k0 f (k + 1) m (by omega) (by omega)
      have b1 := wn_bounds (numV l (1 + k)) (m := 4) (by omega)
      have b3 := wn_bounds (w64 (Int.tdiv (numV l (1 + k)) 36)) (m := 4) (by omega)
      unfold w64 at b3
      have hlen : (carRow ((List.range k).map (carAt l))).length = k := by simp [carRow]
      have hsz : ∀ x y z : PV, ((carRow ((List.range k).map (carAt l))).length + ([[x, y, z]] : List (List PV)).length) * 24 ≤ maxBytes := by
        intro x y z
        rw [hlen]
        unfold maxBytes
        simp
        omega
      have hrow : carRow ((List.range k).map (carAt l)) ++ [[PV.int .i64 (([20, 60, 9, 30] : List Int).getD (wn (numV l (1 + k)) 4).toNat 0), PV.int .i64 (wn (IntKind.i64.wrap (Int.tdiv (numV l (1 + k)) 4)) 9), PV.int .i64 (([1000, 200, 90, 60] : List Int).getD (wn (IntKind.i64.wrap (Int.tdiv (numV l (1 + k)) 36)) 4).toNat 0)]] = carRow ((List.range (k + 1)).map (carAt l)) := by
        rw [← range_snoc, carRow_append]
        rfl
      have e0 : ∀ n : Int, ([PV.int .i64 n] : List PV)[0]? = some (PV.int .i64 n) := fun _ => rfl
      have hk1 : IntKind.i64.wrap ((k : Int) + 1) = ((k + 1 : Nat) : Int) := (wrapN (by omega) (by omega)).trans (by omega)
      have c1 : wn (numV l (1 + k)) 4 < 4 := b1.2
      have c3 : wn (IntKind.i64.wrap (Int.tdiv (numV l (1 + k)) 36)) 4 < 4 := b3.2
      have t1 := tab_cap _ b1.1 c1
      have t3 := tab_end _ b3.1 c3
      simp only [w_4, w_9, Option.bind_some, b1.1, c1, b3.1, c3, and_self, if_true, t1, t3, e0, asI_int, hsz, meet_self, hrow, hk1, ih]
theorem stops_rounds {R : Type} {l : List Int} (hl : l.length ≤ big) (cs : List (List PV)) (k0 : List (List PV) → Int → List (List PV) → List (List PV) → Option R) : ∀ (f k n : Nat), k + f = sizeOf' l → f < n →
    pInst_l10 n (iRow l) (sizeOf' l : Int) (k : Int) cs (stpRow ((List.range k).map (stopAt l))) k0 = k0 (iRow l) (sizeOf' l : Int) cs (stpRow (stopsOf l))
  | f, k, n, hk, hn => by
    obtain ⟨m, rfl⟩ : ∃ m, n = m + 1 := ⟨n - 1, by omega⟩
    have hb := wn_bounds (numV l 4) (m := 7) (by omega)
    have hsz8 : sizeOf' l ≤ 8 := by unfold sizeOf'; omega
    unfold pInst_l10
    cases f with
    | zero =>
      rw [decide_eq_false (by omega), cond_false]
      unfold stopsOf
      rw [show k = sizeOf' l by omega]
    | succ f =>
      rw [decide_eq_true (by omega), cond_true, wrapN (n := 5 + (k : Int)) (by omega) (by omega), show (5 + (k : Int)) = ((5 + k : Nat) : Int) by omega, pNum_ok hl (5 + k) (by omega), Option.bind_some]
      have ih := stops_rounds hl cs k0 f (k + 1) m (by omega) (by omega)
      have b1 := wn_bounds (w64 (Int.tdiv (numV l (5 + k)) 7)) (m := 4) (by omega)
      have b2 := wn_bounds (w64 (Int.tdiv (numV l (5 + k)) 8)) (m := 30) (by omega)
      have b4 := wn_bounds (w64 (Int.tdiv (numV l (5 + k)) 9)) (m := 4) (by omega)
      have hcl := close_small (wn (w64 (Int.tdiv (numV l (5 + k)) 7)) 4)
      have hlen : (stpRow ((List.range k).map (stopAt l))).length = k := by simp [stpRow]
      have hsz : ∀ x y z t : PV, ((stpRow ((List.range k).map (stopAt l))).length + ([[x, y, z, t]] : List (List PV)).length) * 32 ≤ maxBytes := by
        intro x y z t
        rw [hlen]
        unfold maxBytes
        simp
        omega
      have e0 : ∀ n : Int, ([PV.int .i64 n] : List PV)[0]? = some (PV.int .i64 n) := fun _ => rfl
      have hk1 : IntKind.i64.wrap ((k : Int) + 1) = ((k + 1 : Nat) : Int) := (wrapN (by omega) (by omega)).trans (by omega)
      have c3 : wn (w64 (Int.tdiv (numV l (5 + k)) 7)) 4 < 4 := b1.2
      have t3 := tab_close _ b1.1 c3
      have hclose : IntKind.i64.wrap (wn (w64 (Int.tdiv (numV l (5 + k)) 8)) 30 + ([900, 60, 25, 8] : List Int).getD (wn (w64 (Int.tdiv (numV l (5 + k)) 7)) 4).toNat 0) = wn (w64 (Int.tdiv (numV l (5 + k)) 8)) 30 + ([900, 60, 25, 8] : List Int).getD (wn (w64 (Int.tdiv (numV l (5 + k)) 7)) 4).toNat 0 := wrapN (by omega) (by omega)
      have hneg : IntKind.i64.wrap (-1 - wn (w64 (Int.tdiv (numV l (5 + k)) 9)) 4) = -1 - wn (w64 (Int.tdiv (numV l (5 + k)) 9)) 4 := wrapN (by omega) (by omega)
      have q : ∀ k1 : List (List PV) → Int → Int → List (List PV) → List (List PV) → Option R, pInst_q16 m (iRow l) (sizeOf' l : Int) (k : Int) (numV l (5 + k)) cs (stpRow ((List.range k).map (stopAt l))) (wn (numV l (5 + k)) 8) (wn (w64 (Int.tdiv (numV l (5 + k)) 8)) 30)
          (if (1000 : Int) < wn (w64 (Int.tdiv (numV l (5 + k)) 8)) 30 + ([900, 60, 25, 8] : List Int).getD (wn (w64 (Int.tdiv (numV l (5 + k)) 7)) 4).toNat 0 then (1000 : Int) else wn (w64 (Int.tdiv (numV l (5 + k)) 8)) 30 + ([900, 60, 25, 8] : List Int).getD (wn (w64 (Int.tdiv (numV l (5 + k)) 7)) 4).toNat 0) (wn (w64 (Int.tdiv (numV l (5 + k)) 240)) 6) k1 =
          k1 (iRow l) (sizeOf' l : Int) (k : Int) cs (stpRow ((List.range (k + 1)).map (stopAt l))) := by
        intro k1
        unfold pInst_q16
        rw [w_9, Option.bind_some, ← range_snoc, stpRow_append]
        have hat : stpRow [stopAt l k] = [[PV.int .i64 (if wn (numV l (5 + k)) 9 = 8 then -1 - wn (w64 (Int.tdiv (numV l (5 + k)) 9)) 4 else wn (numV l (5 + k)) 8), PV.int .i64 (wn (w64 (Int.tdiv (numV l (5 + k)) 8)) 30), PV.int .i64 (if (1000 : Int) < wn (w64 (Int.tdiv (numV l (5 + k)) 8)) 30 + ([900, 60, 25, 8] : List Int).getD (wn (w64 (Int.tdiv (numV l (5 + k)) 7)) 4).toNat 0 then (1000 : Int) else wn (w64 (Int.tdiv (numV l (5 + k)) 8)) 30 + ([900, 60, 25, 8] : List Int).getD (wn (w64 (Int.tdiv (numV l (5 + k)) 7)) 4).toNat 0), PV.int .i64 (wn (w64 (Int.tdiv (numV l (5 + k)) 240)) 6)]] := rfl
        rw [hat]
        by_cases h8 : wn (numV l (5 + k)) 9 = 8
        · rw [h8, beq_self_eq_true, cond_true, if_pos rfl]
          unfold w64 at hneg
          rw [w_4, Option.bind_some, if_pos (hsz _ _ _ _), hneg]
          rfl
        · rw [show (wn (numV l (5 + k)) 9 == 8) = false by simpa using h8, cond_false, if_neg h8, if_pos (hsz _ _ _ _)]
      unfold w64 at c3 b1 t3 hclose q
      simp only [w_8, w_30, w_6, w_4, Option.bind_some, b1.1, c3, and_self, if_true, t3, e0, asI_int, hclose, q, hk1, ih, meet_self]
theorem stpRow_length (l : List Stp) : (stpRow l).length = l.length := by simp [stpRow]
theorem setDemand_length (s : List Stp) (j : Nat) (d : Int) : (setDemand s j d).length = s.length := by simp [setDemand]
theorem pairStep_length (l : List Int) (k : Nat) (s : List Stp) : (pairStep l k s).length = s.length := by simp [pairStep, setDemand_length]
theorem stp_at {s : List Stp} {j : Nat} (h : j < s.length) : (stpRow s)[j]? = some [.int .i64 (s.getD j (0, 0, 0, 0)).1, .int .i64 (s.getD j (0, 0, 0, 0)).2.1, .int .i64 (s.getD j (0, 0, 0, 0)).2.2.1, .int .i64 (s.getD j (0, 0, 0, 0)).2.2.2] := by
  rw [stpRow, List.getElem?_map, List.getElem?_eq_getElem h, List.getD_eq_getElem?_getD, List.getElem?_eq_getElem h]
  rfl
theorem stp_set {s : List Stp} {j : Nat} (d : Int) : (stpRow s).set j (List.set [.int .i64 (s.getD j (0, 0, 0, 0)).1, .int .i64 (s.getD j (0, 0, 0, 0)).2.1, .int .i64 (s.getD j (0, 0, 0, 0)).2.2.1, .int .i64 (s.getD j (0, 0, 0, 0)).2.2.2] 0 (.int .i64 d)) = stpRow (setDemand s j d) := by
  unfold stpRow setDemand
  rw [List.map_set]
  rfl
theorem pair_step {R : Type} {l : List Int} (hl : l.length ≤ big) (cs : List (List PV)) (s : List Stp) (p : List (Int × Int)) (k m : Nat) (size : Int) (hk : k ≤ 2) (hs : 2 * k + 2 ≤ s.length) (hs8 : s.length ≤ 8) (hp : p.length ≤ 10) (k0 : List (List PV) → Int → Int → List (List PV) → List (List PV) → List (List PV) → Option R) :
    pInst_q25 m (iRow l) size (k : Int) ((pairOf l k).1 : Int) ((pairOf l k).2 : Int) cs (stpRow s) (prRow p) k0 = k0 (iRow l) size (k : Int) cs (stpRow (pairStep l k s)) (prRow (p ++ [(((pairOf l k).1 : Int), ((pairOf l k).2 : Int))])) := by
  unfold pInst_q25
  rw [wrapN (n := 16 + (k : Int)) (by omega) (by omega), show (16 + (k : Int)) = ((16 + k : Nat) : Int) by omega, pNum_ok hl (16 + k) (by omega), Option.bind_some, w_9, Option.bind_some]
  have hd := wn_bounds (numV l (16 + k)) (m := 9) (by omega)
  have hab : 1 ≤ (pairOf l k).1 ∧ (pairOf l k).1 ≤ s.length ∧ 1 ≤ (pairOf l k).2 ∧ (pairOf l k).2 ≤ s.length := by
    unfold pairOf
    split <;> simp only <;> omega
  unfold pairStep
  generalize wn (numV l (16 + k)) 9 = d at hd
  generalize (pairOf l k).1 = a at hab
  generalize (pairOf l k).2 = b at hab
  obtain ⟨a1, a2, b1, b2⟩ := hab
  have ha : IntKind.i64.wrap ((a : Int) - 1) = ((a - 1 : Nat) : Int) := by
    by_cases h : (a : Int) < 9223372036854775808
    · rw [wrapN (by omega) (by omega)]; omega
    · omega
  have hb : IntKind.i64.wrap ((b : Int) - 1) = ((b - 1 : Nat) : Int) := by
    by_cases h : (b : Int) < 9223372036854775808
    · rw [wrapN (by omega) (by omega)]; omega
    · omega
  have hneg : IntKind.i64.wrap (0 - d) = -d := (wrapN (by omega) (by omega)).trans (by omega)
  have e0 : ∀ (s : List Stp) (j : Nat), ([.int .i64 (s.getD j (0, 0, 0, 0)).1, .int .i64 (s.getD j (0, 0, 0, 0)).2.1, .int .i64 (s.getD j (0, 0, 0, 0)).2.2.1, .int .i64 (s.getD j (0, 0, 0, 0)).2.2.2] : List PV)[0]? = some (.int .i64 (s.getD j (0, 0, 0, 0)).1) := fun _ _ => rfl
  have ga := stp_at (s := s) (j := a - 1) (by omega)
  have gb := stp_at (s := setDemand s (a - 1) d) (j := b - 1) (by rw [setDemand_length]; omega)
  have c1 : 0 ≤ ((a - 1 : Nat) : Int) ∧ ((a - 1 : Nat) : Int) < ((stpRow s).length : Int) := by rw [stpRow_length]; omega
  have c2 : 0 ≤ ((b - 1 : Nat) : Int) ∧ ((b - 1 : Nat) : Int) < ((stpRow (setDemand s (a - 1) d)).length : Int) := by rw [stpRow_length, setDemand_length]; omega
  have hfin : ∀ s', pInst_q27 m (iRow l) size (k : Int) (a : Int) (b : Int) cs s' (prRow p) k0 = k0 (iRow l) size (k : Int) cs s' (prRow (p ++ [((a : Int), (b : Int))])) := by
    intro s'
    unfold pInst_q27
    rw [if_pos (by rw [prRow, List.length_map]; unfold maxBytes; simp; omega), prRow_append]
    rfl
  simp only [ha, hb, hneg, Int.toNat_natCast, ga, e0, Option.bind_some, stp_set, gb, if_pos c1, if_pos c2, hfin, meet_self]
theorem pairs_rounds {R : Type} {l : List Int} (hl : l.length ≤ big) (cs : List (List PV)) (size : Nat) (hsz : size ≤ 8) (k0 : List (List PV) → Int → List (List PV) → List (List PV) → List (List PV) → Option R) : ∀ (f k n : Nat) (s : List Stp) (p : List (Int × Int)), k + f = 4 → f < n → s.length = size → p.length ≤ k → k ≤ (wn (numV l 14) 3).toNat →
    pInst_l19 n (iRow l) (size : Int) (k : Int) cs (stpRow s) (prRow p) k0 = k0 (iRow l) (size : Int) cs (stpRow (pairsFrom l size f k s p).1) (prRow (pairsFrom l size f k s p).2)
  | f, k, n, s, p, hk, hn, hs, hp, hkw => by
    obtain ⟨m, rfl⟩ : ∃ m, n = m + 1 := ⟨n - 1, by omega⟩
    have hb := wn_bounds (numV l 14) (m := 3) (by omega)
    cases f with
    | zero => omega
    | succ f =>
      unfold pInst_l19 pairsFrom
      have p14 : pNum_d (iRow l) 14 = some (numV l 14) := pNum_ok hl 14 (by omega)
      rw [p14, Option.bind_some, w_3, Option.bind_some]
      by_cases h1 : k < (wn (numV l 14) 3).toNat
      · rw [decide_eq_true (by omega), cond_true]
        have e2 : IntKind.i64.wrap (IntKind.i64.wrap (2 * (k : Int)) + 2) = 2 * (k : Int) + 2 := by rw [wrapN (n := 2 * (k : Int)) (by omega) (by omega), wrapN (by omega) (by omega)]
        rw [e2]
        by_cases h2 : 2 * k + 2 ≤ size
        · rw [decide_eq_true (by omega), cond_true, if_pos ⟨h1, h2⟩, wrapN (n := 15 + (k : Int)) (by omega) (by omega), show (15 + (k : Int)) = ((15 + k : Nat) : Int) by omega, pNum_ok hl (15 + k) (by omega), Option.bind_some, w_2, Option.bind_some]
          have st := pair_step hl cs s p k m (size : Int) (by omega) (by omega) (by omega) (by omega) (fun l228 size229 k230 es231 es232 es233 => pInst_l19 m l228 size229 (IntKind.i64.wrap (k230 + (1 : Int))) es231 es232 es233 k0)
          have hk1 : IntKind.i64.wrap ((k : Int) + 1) = ((k + 1 : Nat) : Int) := (wrapN (by omega) (by omega)).trans (by omega)
          have ih := pairs_rounds hl cs size hsz k0 f (k + 1) m (pairStep l k s) (p ++ [(((pairOf l k).1 : Int), ((pairOf l k).2 : Int))]) (by omega) (by omega) (by rw [pairStep_length, hs]) (by simp; omega) (by omega)
          rw [hk1, ih] at st
          have e1 : IntKind.i64.wrap (IntKind.i64.wrap (2 * (k : Int)) + 1) = 2 * (k : Int) + 1 := by rw [wrapN (n := 2 * (k : Int)) (by omega) (by omega), wrapN (by omega) (by omega)]
          rw [e1]
          unfold pairOf at st ⊢
          by_cases h3 : wn (numV l (15 + k)) 2 = 1
          · rw [h3, beq_self_eq_true, cond_true]
            simp only [h3, if_true] at st ⊢
            rw [show ((2 * k + 2 : Nat) : Int) = 2 * (k : Int) + 2 by omega, show ((2 * k + 1 : Nat) : Int) = 2 * (k : Int) + 1 by omega] at st ⊢
            exact st
          · rw [show (wn (numV l (15 + k)) 2 == 1) = false by simpa using h3, cond_false]
            simp only [h3, if_false] at st ⊢
            rw [show ((2 * k + 2 : Nat) : Int) = 2 * (k : Int) + 2 by omega, show ((2 * k + 1 : Nat) : Int) = 2 * (k : Int) + 1 by omega] at st ⊢
            exact st
        · rw [decide_eq_false (by omega), cond_false, if_neg (fun h => h2 h.2)]
      · rw [decide_eq_false (by omega), cond_false, if_neg (fun h => h1 h.1)]
theorem row_rounds {R : Type} {l : List Int} (hl : l.length ≤ big) (cs ss ps ts : List (List PV)) (size a : Nat) (hsz : size ≤ 8) (ha : a ≤ 8) (k0 : List (List PV) → Int → Int → List (List PV) → List (List PV) → List (List PV) → List (List PV) → List (List PV) → Option R) : ∀ (f b n : Nat), b + f = size + 1 → f < n →
    pInst_l32 n (iRow l) (size : Int) (a : Int) (b : Int) cs ss ps ts (iRow ((List.range b).map (tripAt l a))) k0 = k0 (iRow l) (size : Int) (a : Int) cs ss ps ts (iRow ((List.range (size + 1)).map (tripAt l a)))
  | f, b, n, hb, hn => by
    obtain ⟨m, rfl⟩ : ∃ m, n = m + 1 := ⟨n - 1, by omega⟩
    unfold pInst_l32
    cases f with
    | zero =>
      rw [decide_eq_false (by omega), cond_false, show b = size + 1 by omega]
    | succ f =>
      have ih := row_rounds hl cs ss ps ts size a hsz ha k0 f (b + 1) m (by omega) (by omega)
      have e3 : IntKind.i64.wrap (IntKind.i64.wrap (20 + IntKind.i64.wrap (3 * (a : Int))) + IntKind.i64.wrap (5 * (b : Int))) = ((20 + 3 * a + 5 * b : Nat) : Int) := by
        rw [wrapN (n := 3 * (a : Int)) (by omega) (by omega), wrapN (n := 5 * (b : Int)) (by omega) (by omega), wrapN (n := 20 + 3 * (a : Int)) (by omega) (by omega), wrapN (by omega) (by omega)]
        omega
      have hbd := wn_bounds (numV l (20 + 3 * a + 5 * b)) (m := 14) (by omega)
      have hb1 : IntKind.i64.wrap ((b : Int) + 1) = ((b + 1 : Nat) : Int) := (wrapN (by omega) (by omega)).trans (by omega)
      have hlen : ∀ x : PV, ((iRow ((List.range b).map (tripAt l a))).length + ([[x]] : List (List PV)).length) * 8 ≤ maxBytes := by
        intro x
        rw [iRow_length]
        unfold maxBytes
        simp
        omega
      rw [decide_eq_true (by omega), cond_true, e3, pNum_ok hl _ (by omega), Option.bind_some, w_14, Option.bind_some, hb1]
      have hrow : ∀ x : Int, tripAt l a b = x → iRow ((List.range b).map (tripAt l a)) ++ [[PV.int .i64 x]] = iRow ((List.range (b + 1)).map (tripAt l a)) := by
        intro x hx
        rw [← range_snoc, iRow_append, hx]
        rfl
      by_cases hab : a = b
      · rw [show ((a : Int) == (b : Int)) = true by simp [hab], cond_true, if_pos (hlen _), hrow 0 (by unfold tripAt; rw [if_pos hab]), ih]
      · rw [show ((a : Int) == (b : Int)) = false by rw [beq_eq_false_iff_ne]; omega, cond_false, if_pos (hlen _), hrow _ (by unfold tripAt; rw [if_neg hab]; exact (wrapN (by omega) (by omega)).symm), ih]
theorem travel_rounds {R : Type} {l : List Int} (hl : l.length ≤ big) (cs ss ps : List (List PV)) (size : Nat) (hsz : size ≤ 8) (k0 : List (List PV) → List (List PV) → List (List PV) → List (List PV) → Option R) : ∀ (f a n : Nat), a + f = size + 1 → f + 12 < n →
    pInst_l28 n (iRow l) (size : Int) (a : Int) cs ss ps (trRow ((List.range a).map fun a => (List.range (size + 1)).map (tripAt l a))) k0 = k0 cs ss ps (trRow ((List.range (size + 1)).map fun a => (List.range (size + 1)).map (tripAt l a)))
  | f, a, n, ha, hn => by
    obtain ⟨m, rfl⟩ : ∃ m, n = m + 1 := ⟨n - 1, by omega⟩
    unfold pInst_l28
    cases f with
    | zero =>
      rw [decide_eq_false (by omega), cond_false, show a = size + 1 by omega]
    | succ f =>
      have ih := travel_rounds hl cs ss ps size hsz k0 f (a + 1) m (by omega) (by omega)
      have ha1 : IntKind.i64.wrap ((a : Int) + 1) = ((a + 1 : Nat) : Int) := (wrapN (by omega) (by omega)).trans (by omega)
      rw [decide_eq_true (by omega), cond_true]
      have r := fun k1 => row_rounds (R := R) hl cs ss ps (trRow ((List.range a).map fun a => (List.range (size + 1)).map (tripAt l a))) size a hsz (by omega) k1 (size + 1) 0 m (by omega) (by omega)
      refine (r _).trans ?_
      rw [if_pos (by rw [trRow, List.length_map, List.length_map, List.length_range]; unfold maxBytes; simp; omega), ha1]
      have hrow : trRow ((List.range a).map fun a => (List.range (size + 1)).map (tripAt l a)) ++ [[PV.fs (iRow ((List.range (size + 1)).map (tripAt l a)))]] = trRow ((List.range (a + 1)).map fun a => (List.range (size + 1)).map (tripAt l a)) := by
        rw [← range_snoc (fun a => (List.range (size + 1)).map (tripAt l a)), trRow_append]
        rfl
      rw [hrow, ih]
theorem pInst_ok : ∀ (l1 : List (List PV)) (y : List (List PV) × List (List PV) × List (List PV) × List (List PV)), sPInst l1 = some y → ∃ n, ∀ (R : Type) (k : List (List PV) → List (List PV) → List (List PV) → List (List PV) → Option R), pInst_b n l1 k = k y.1 y.2.1 y.2.2.1 y.2.2.2 := by
  intro es y h
  simp only [sPInst, Option.bind_eq_some_iff] at h
  obtain ⟨l, h1, h2⟩ := h
  split at h2
  case isFalse => cases h2
  rename_i hl
  cases h2
  rw [(unI_inv h1).1]
  refine ⟨40, fun R k => ?_⟩
  have hb := wn_bounds (numV l 4) (m := 7) (by omega)
  have hb0 := wn_bounds (numV l 0) (m := 3) (by omega)
  have hb14 := wn_bounds (numV l 14) (m := 3) (by omega)
  have hsz8 : sizeOf' l ≤ 8 := by unfold sizeOf'; omega
  unfold pInst_b
  have c := fun k0 => cars_rounds (R := R) hl k0 (1 + (wn (numV l 0) 3).toNat) 0 40 (by omega) (by omega)
  refine (c _).trans ?_
  have p4 : pNum_d (iRow l) 4 = some (numV l 4) := pNum_ok hl 4 (by omega)
  rw [p4, Option.bind_some, w_7, Option.bind_some, wrapN (by omega) (by omega), show (2 + wn (numV l 4) 7) = (sizeOf' l : Int) by unfold sizeOf'; omega]
  have s := fun k0 => stops_rounds (R := R) hl (carRow (carsOf l)) k0 (sizeOf' l) 0 40 (by omega) (by omega)
  refine (s _).trans ?_
  have p := fun k0 => pairs_rounds (R := R) hl (carRow (carsOf l)) (sizeOf' l) hsz8 k0 4 0 40 (stopsOf l) [] (by omega) (by omega) (by simp [stopsOf]) (by simp) (by omega)
  refine (p _).trans ?_
  have t := fun cs ss ps => travel_rounds (R := R) hl cs ss ps (sizeOf' l) hsz8 k (sizeOf' l + 1) 0 40 (by omega) (by omega)
  refine (t _ _ _).trans ?_
  rfl
end Go.Proofs.YtkeklbicmfhemaaDoorV
namespace Go.Proofs.YtkeklbicmfhemaaDoorV
open Go
def inR (n lo hi : Int) : Bool := decide (lo ≤ n) && decide (n ≤ hi)
def carOk (c : Car) : Bool := inR c.1 0 60 && (inR c.2.1 0 c.2.2 && decide (c.2.2 ≤ 1000))
def stpOk (s : Stp) : Bool := inR s.1 (-20) 20 && (inR s.2.1 0 s.2.2.1 && (decide (s.2.2.1 ≤ 1000) && inR s.2.2.2 0 1000))
def demandAt (s : List Stp) (n : Int) : Int := (s.getD (n - 1).toNat (0, 0, 0, 0)).1
def fresh (s : List Stp) (had : List Int) (x : Int) : Bool := inR x 1 s.length && !had.contains x
def pairsOk (s : List Stp) : List (Int × Int) → List Int → Bool
  | [], _ => true
  | p :: r, had => fresh s had p.1 && (fresh s (had ++ [p.1]) p.2 && (decide (0 ≤ demandAt s p.1) && (decide (demandAt s p.2 = -demandAt s p.1) && pairsOk s r (had ++ [p.1, p.2]))))
def cellOk (a b : Nat) (t : Int) : Bool := inR t 0 1000 && !(a == b && t != 0)
def cellsOk (a : Nat) : Nat → List Int → Bool
  | _, [] => true
  | b, t :: r => cellOk a b t && cellsOk a (b + 1) r
def rowsOk (size : Nat) : Nat → List (List Int) → Bool
  | _, [] => true
  | a, r :: rs => decide (r.length = size) && (cellsOk a 0 r && rowsOk size (a + 1) rs)
def checkI (i : Inst) : Bool := inR i.cars.length 1 3 && (decide (i.stops.length ≤ 10) && (decide (i.travel.length = i.stops.length + 1) && (i.cars.all carOk && (i.stops.all stpOk && (pairsOk i.stops i.pairs [] && rowsOk i.travel.length 0 i.travel)))))
def smallI (i : Inst) : Bool := decide (i.cars.length ≤ big) && (decide (i.stops.length ≤ big) && (decide (i.pairs.length ≤ big) && (decide (i.travel.length ≤ big) && i.travel.all fun r => decide (r.length ≤ big))))
def sCheckInst (a b c d : List (List PV)) : Option Bool := (unInst a b c d).bind fun i => if smallI i = true then some (checkI i) else none
def sFilled (n x : Int) : Option (List (List PV)) := if 0 ≤ n ∧ n ≤ 1000 ∧ inI x = true then some (iRow (List.replicate n.toNat x)) else none
structure Plan where
  routes : List (List Int)
  lock : List Int
  ice : List Int
  rv : List Int
  sv : List Int
  iv : List Int
  pv : Int
def newPlan (i : Inst) : Plan := if checkI i = true then ⟨List.replicate i.cars.length [], List.replicate (i.stops.length + 1) (-1), List.replicate i.cars.length (-1), List.replicate i.cars.length 0, List.replicate (i.stops.length + 1) 0, List.replicate i.cars.length 0, 0⟩ else ⟨[], [], [], [], [], [], 0⟩
def sNewPlan (a b c d : List (List PV)) : Option (List (List PV) × List (List PV) × List (List PV) × List (List PV) × List (List PV) × List (List PV) × Int) := (unInst a b c d).bind fun i => if smallI i = true then
  some (trRow (newPlan i).routes, iRow (newPlan i).lock, iRow (newPlan i).ice, iRow (newPlan i).rv, iRow (newPlan i).sv, iRow (newPlan i).iv, (newPlan i).pv) else none
def mateOf : List (Int × Int) → Int → Int
  | [], _ => 0
  | p :: r, s => if p.1 = s then p.2 else if p.2 = s then p.1 else mateOf r s
def firstOf (l : List (Int × Int)) (s : Int) : Bool := l.any fun p => p.1 == s
def sMate (a b c d : List (List PV)) (s : Int) : Option Int := (unInst a b c d).bind fun i => if smallI i = true then some (mateOf i.pairs s) else none
def sFirst (a b c d : List (List PV)) (s : Int) : Option Bool := (unInst a b c d).bind fun i => if smallI i = true then some (firstOf i.pairs s) else none
end Go.Proofs.YtkeklbicmfhemaaDoorV
