/- Contracts and lemmas for the proof of DeedRuns; each theorem states its own conditions. -/
import Derived.Shelf.Strings.SlTrimAscii
import Derived.Ground.NamesProg
import Derived.Test.YtomgeolmfpijoaaDoorProg
import Derived.Test.YtomgeolmfpijoaaDoorQDeedRunsaa
set_option linter.unusedVariables false
set_option linter.unusedSimpArgs false
/- Contracts and lemmas for the proofs of this seat; each theorem states its own conditions. -/
namespace Go.Proofs.YtomgeolmfpijoaaDoor
open Go.Shelf
def lays160_ren : Go.Shelf.Ren := ⟨fun | 160 => 98 | 232 => 142 | 231 => 141 | 227 => 143 | 234 => 145 | 233 => 144 | 236 => 147 | 235 => 146 | 228 => 172 | 271 => 174 | 151 => 173 | 197 => 121 | 120 => 212 | 152 => 211 | 260 => 165 | 137 => 228 | 119 => 229 | 224 => 230 | 225 => 231 | 217 => 236 | 266 => 239 | n => n, fun | 9 => 9 | 4 => 4 | 3 => 3 | 5 => 5 | 117 => 198 | 116 => 197 | 0 => 0 | 124 => 201 | 21 => 21 | 105 => 176 | 46 => 127 | 119 => 250 | 139 => 253 | 138 => 252 | n => n, fun | 3 => 0 | 4 => 1 | n => n⟩
theorem lays160 : Go.Proofs.Lays.n160 Tryd.prog lays160_ren := {
  mixed := by kernel_rfl
  f119 := Tryd.func229.trans (congrArg some (by kernel_rfl))
  f120 := Tryd.func212.trans (congrArg some (by kernel_rfl))
  f137 := Tryd.func228.trans (congrArg some (by kernel_rfl))
  f151 := Tryd.func173.trans (congrArg some (by kernel_rfl))
  f152 := Tryd.func211.trans (congrArg some (by kernel_rfl))
  f160 := Tryd.func98.trans (congrArg some (by kernel_rfl))
  f197 := Tryd.func121.trans (congrArg some (by kernel_rfl))
  f217 := Tryd.func236.trans (congrArg some (by kernel_rfl))
  f224 := Tryd.func230.trans (congrArg some (by kernel_rfl))
  f225 := Tryd.func231.trans (congrArg some (by kernel_rfl))
  f227 := Tryd.func143.trans (congrArg some (by kernel_rfl))
  f228 := Tryd.func172.trans (congrArg some (by kernel_rfl))
  f231 := Tryd.func141.trans (congrArg some (by kernel_rfl))
  f232 := Tryd.func142.trans (congrArg some (by kernel_rfl))
  f233 := Tryd.func144.trans (congrArg some (by kernel_rfl))
  f234 := Tryd.func145.trans (congrArg some (by kernel_rfl))
  f235 := Tryd.func146.trans (congrArg some (by kernel_rfl))
  f236 := Tryd.func147.trans (congrArg some (by kernel_rfl))
  f260 := Tryd.func165.trans (congrArg some (by kernel_rfl))
  f266 := Tryd.func239.trans (congrArg some (by kernel_rfl))
  f271 := Tryd.func174.trans (congrArg some (by kernel_rfl))
  t0 := Tryd.underlying0
  a0 := Tryd.isAgg0
  z0 := Tryd.sizeOf0
  v0 := Tryd.zeroValue0
  t3 := Tryd.underlying3
  a3 := Tryd.isAgg3
  z3 := Tryd.sizeOf3
  v3 := Tryd.zeroValue3
  t4 := Tryd.underlying4
  a4 := Tryd.isAgg4
  z4 := Tryd.sizeOf4
  v4 := Tryd.zeroValue4
  t5 := Tryd.underlying5
  a5 := Tryd.isAgg5
  z5 := Tryd.sizeOf5
  v5 := Tryd.zeroValue5
  t9 := Tryd.underlying9
  a9 := Tryd.isAgg9
  z9 := Tryd.sizeOf9
  v9 := Tryd.zeroValue9
  t21 := Tryd.underlying21
  a21 := Tryd.isAgg21
  z21 := Tryd.sizeOf21
  v21 := Tryd.zeroValue21
  t46 := Tryd.underlying127
  a46 := Tryd.isAgg127
  z46 := Tryd.sizeOf127
  v46 := Tryd.zeroValue127
  t105 := Tryd.underlying176
  a105 := Tryd.isAgg176
  z105 := Tryd.sizeOf176
  v105 := Tryd.zeroValue176
  t116 := Tryd.underlying197
  a116 := Tryd.isAgg197
  z116 := Tryd.sizeOf197
  t117 := Tryd.underlying198
  a117 := Tryd.isAgg198
  z117 := Tryd.sizeOf198
  v117 := Tryd.zeroValue198
  t119 := Tryd.underlying250
  a119 := Tryd.isAgg250
  z119 := Tryd.sizeOf250
  t124 := Tryd.underlying201
  a124 := Tryd.isAgg201
  z124 := Tryd.sizeOf201
  v124 := Tryd.zeroValue201
  t138 := Tryd.underlying252
  a138 := Tryd.isAgg252
  z138 := Tryd.sizeOf252
  v138 := Tryd.zeroValue252
  t139 := Tryd.underlying253
  a139 := Tryd.isAgg253
  z139 := Tryd.sizeOf253
  v139 := Tryd.zeroValue253
  g3 := by kernel_rfl
  g4 := by kernel_rfl }
end Go.Proofs.YtomgeolmfpijoaaDoor
