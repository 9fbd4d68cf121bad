/- Contracts and lemmas for the proof of DeedSays; each theorem states its own conditions. -/
import Derived.Shelf.Strings.SlTrimAscii
import Derived.Ground.NamesProg
import Derived.Test.YtijcckhkofkenaaDoorProg
import Derived.Test.YtijcckhkofkenaaDoorQDeedSaysaa
set_option linter.unusedVariables false
set_option linter.unusedSimpArgs false
/- Contracts and lemmas for the proofs of this seat; each theorem states its own conditions. -/
namespace Go.Proofs.YtijcckhkofkenaaDoor
open Go.Shelf
def lays160_ren : Go.Shelf.Ren := ⟨fun | 160 => 115 | 232 => 160 | 231 => 159 | 227 => 161 | 234 => 163 | 233 => 162 | 236 => 165 | 235 => 164 | 228 => 189 | 271 => 191 | 151 => 190 | 197 => 139 | 120 => 228 | 152 => 227 | 260 => 182 | 137 => 241 | 119 => 242 | 224 => 243 | 225 => 244 | 217 => 248 | 266 => 249 | n => n, fun | 9 => 9 | 4 => 4 | 3 => 3 | 5 => 5 | 117 => 212 | 116 => 211 | 0 => 0 | 124 => 215 | 21 => 21 | 105 => 190 | 46 => 142 | 119 => 261 | 139 => 264 | 138 => 263 | n => n, fun | 3 => 0 | 4 => 1 | n => n⟩
theorem lays160 : Go.Proofs.Lays.n160 Tryd.prog lays160_ren := {
  mixed := by kernel_rfl
  f119 := Tryd.func242.trans (congrArg some (by kernel_rfl))
  f120 := Tryd.func228.trans (congrArg some (by kernel_rfl))
  f137 := Tryd.func241.trans (congrArg some (by kernel_rfl))
  f151 := Tryd.func190.trans (congrArg some (by kernel_rfl))
  f152 := Tryd.func227.trans (congrArg some (by kernel_rfl))
  f160 := Tryd.func115.trans (congrArg some (by kernel_rfl))
  f197 := Tryd.func139.trans (congrArg some (by kernel_rfl))
  f217 := Tryd.func248.trans (congrArg some (by kernel_rfl))
  f224 := Tryd.func243.trans (congrArg some (by kernel_rfl))
  f225 := Tryd.func244.trans (congrArg some (by kernel_rfl))
  f227 := Tryd.func161.trans (congrArg some (by kernel_rfl))
  f228 := Tryd.func189.trans (congrArg some (by kernel_rfl))
  f231 := Tryd.func159.trans (congrArg some (by kernel_rfl))
  f232 := Tryd.func160.trans (congrArg some (by kernel_rfl))
  f233 := Tryd.func162.trans (congrArg some (by kernel_rfl))
  f234 := Tryd.func163.trans (congrArg some (by kernel_rfl))
  f235 := Tryd.func164.trans (congrArg some (by kernel_rfl))
  f236 := Tryd.func165.trans (congrArg some (by kernel_rfl))
  f260 := Tryd.func182.trans (congrArg some (by kernel_rfl))
  f266 := Tryd.func249.trans (congrArg some (by kernel_rfl))
  f271 := Tryd.func191.trans (congrArg some (by kernel_rfl))
  t0 := Tryd.underlying0
  a0 := Tryd.isAgg0
  z0 := Tryd.sizeOf0
  v0 := Tryd.zeroValue0
  t3 := Tryd.underlying3
  a3 := Tryd.isAgg3
  z3 := Tryd.sizeOf3
  v3 := Tryd.zeroValue3
  t4 := Tryd.underlying4
  a4 := Tryd.isAgg4
  z4 := Tryd.sizeOf4
  v4 := Tryd.zeroValue4
  t5 := Tryd.underlying5
  a5 := Tryd.isAgg5
  z5 := Tryd.sizeOf5
  v5 := Tryd.zeroValue5
  t9 := Tryd.underlying9
  a9 := Tryd.isAgg9
  z9 := Tryd.sizeOf9
  v9 := Tryd.zeroValue9
  t21 := Tryd.underlying21
  a21 := Tryd.isAgg21
  z21 := Tryd.sizeOf21
  v21 := Tryd.zeroValue21
  t46 := Tryd.underlying142
  a46 := Tryd.isAgg142
  z46 := Tryd.sizeOf142
  v46 := Tryd.zeroValue142
  t105 := Tryd.underlying190
  a105 := Tryd.isAgg190
  z105 := Tryd.sizeOf190
  v105 := Tryd.zeroValue190
  t116 := Tryd.underlying211
  a116 := Tryd.isAgg211
  z116 := Tryd.sizeOf211
  t117 := Tryd.underlying212
  a117 := Tryd.isAgg212
  z117 := Tryd.sizeOf212
  v117 := Tryd.zeroValue212
  t119 := Tryd.underlying261
  a119 := Tryd.isAgg261
  z119 := Tryd.sizeOf261
  t124 := Tryd.underlying215
  a124 := Tryd.isAgg215
  z124 := Tryd.sizeOf215
  v124 := Tryd.zeroValue215
  t138 := Tryd.underlying263
  a138 := Tryd.isAgg263
  z138 := Tryd.sizeOf263
  v138 := Tryd.zeroValue263
  t139 := Tryd.underlying264
  a139 := Tryd.isAgg264
  z139 := Tryd.sizeOf264
  v139 := Tryd.zeroValue264
  g3 := by kernel_rfl
  g4 := by kernel_rfl }
end Go.Proofs.YtijcckhkofkenaaDoor
