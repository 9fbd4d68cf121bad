/- Contracts and lemmas for the proof of ShardTells; each theorem states its own conditions. -/
import Derived.Shelf.Small.Strs
import Derived.Shelf.Sort.Plain
import Derived.Ground.GgsProg
import Derived.Shelf.GgSortFunc.Tiny
import Derived.Shelf.Slices.CompactS
import Derived.Shelf.Slices.Cells
import Derived.Shelf.Slices.In.SortNone
import Derived.Shelf.SlSortFuncK.WholeK
import Derived.Test.YtghemmmkbpfdhaaDoorProg
import Derived.Test.YtghemmmkbpfdhaaDoorQShardTellsaa
import Derived.Test.YtghemmmkbpfdhaaDoorQShardTellsar
set_option linter.unusedVariables false
set_option linter.unusedSimpArgs false
/- Contracts and lemmas for the proofs of this seat; each theorem states its own conditions. -/
namespace Go.Proofs.YtghemmmkbpfdhaaDoor
open Go.Shelf
def laysGg6_ren : Go.Shelf.Ren := ⟨fun | 6 => 81 | 10 => 114 | 11 => 115 | 12 => 116 | 13 => 117 | 14 => 118 | 24 => 139 | 25 => 140 | 26 => 141 | 27 => 142 | 28 => 143 | 29 => 144 | 30 => 145 | 31 => 146 | 32 => 147 | 33 => 148 | 34 => 156 | 35 => 157 | 36 => 158 | 37 => 159 | 38 => 160 | 39 => 165 | n => n, fun | 20 => 20 | 26 => 117 | 35 => 157 | 0 => 0 | 37 => 159 | 3 => 3 | 41 => 94 | 44 => 164 | 49 => 174 | 51 => 118 | 4 => 4 | 54 => 178 | 53 => 177 | 58 => 101 | 5 => 5 | 9 => 9 | 60 => 192 | 64 => 196 | 66 => 202 | 67 => 203 | 17 => 17 | 32 => 154 | 33 => 155 | 82 => 216 | 12 => 12 | 75 => 210 | 76 => 211 | 77 => 212 | 78 => 166 | 79 => 213 | 80 => 214 | n => n, fun | n => n⟩
theorem laysGg6 : Go.Proofs.LaysGg.n6 Tryd.prog laysGg6_ren := {
  mixed := by kernel_rfl
  f6 := Tryd.func81.trans (congrArg some (by kernel_rfl))
  f10 := Tryd.func114.trans (congrArg some (by kernel_rfl))
  f11 := Tryd.func115.trans (congrArg some (by kernel_rfl))
  f12 := Tryd.func116.trans (congrArg some (by kernel_rfl))
  f13 := Tryd.func117.trans (congrArg some (by kernel_rfl))
  f14 := Tryd.func118.trans (congrArg some (by kernel_rfl))
  f24 := Tryd.func139.trans (congrArg some (by kernel_rfl))
  f25 := Tryd.func140.trans (congrArg some (by kernel_rfl))
  f26 := Tryd.func141.trans (congrArg some (by kernel_rfl))
  f27 := Tryd.func142.trans (congrArg some (by kernel_rfl))
  f28 := Tryd.func143.trans (congrArg some (by kernel_rfl))
  f29 := Tryd.func144.trans (congrArg some (by kernel_rfl))
  f30 := Tryd.func145.trans (congrArg some (by kernel_rfl))
  f31 := Tryd.func146.trans (congrArg some (by kernel_rfl))
  f32 := Tryd.func147.trans (congrArg some (by kernel_rfl))
  f33 := Tryd.func148.trans (congrArg some (by kernel_rfl))
  f34 := Tryd.func156.trans (congrArg some (by kernel_rfl))
  f35 := Tryd.func157.trans (congrArg some (by kernel_rfl))
  f36 := Tryd.func158.trans (congrArg some (by kernel_rfl))
  f37 := Tryd.func159.trans (congrArg some (by kernel_rfl))
  f38 := Tryd.func160.trans (congrArg some (by kernel_rfl))
  f39 := Tryd.func165.trans (congrArg some (by kernel_rfl))
  t0 := Tryd.underlying0
  a0 := Tryd.isAgg0
  z0 := Tryd.sizeOf0
  v0 := Tryd.zeroValue0
  i0 := by kernel_rfl
  t3 := Tryd.underlying3
  a3 := Tryd.isAgg3
  z3 := Tryd.sizeOf3
  v3 := Tryd.zeroValue3
  i3 := by kernel_rfl
  t4 := Tryd.underlying4
  a4 := Tryd.isAgg4
  z4 := Tryd.sizeOf4
  v4 := Tryd.zeroValue4
  i4 := by kernel_rfl
  t5 := Tryd.underlying5
  a5 := Tryd.isAgg5
  z5 := Tryd.sizeOf5
  v5 := Tryd.zeroValue5
  i5 := by kernel_rfl
  t9 := Tryd.underlying9
  a9 := Tryd.isAgg9
  z9 := Tryd.sizeOf9
  v9 := Tryd.zeroValue9
  i9 := by kernel_rfl
  t12 := Tryd.underlying12
  a12 := Tryd.isAgg12
  z12 := Tryd.sizeOf12
  v12 := Tryd.zeroValue12
  i12 := by kernel_rfl
  t17 := Tryd.underlying17
  a17 := Tryd.isAgg17
  z17 := Tryd.sizeOf17
  v17 := Tryd.zeroValue17
  i17 := by kernel_rfl
  t20 := Tryd.underlying20
  a20 := Tryd.isAgg20
  z20 := Tryd.sizeOf20
  v20 := Tryd.zeroValue20
  i20 := by kernel_rfl
  t26 := Tryd.underlying117
  a26 := Tryd.isAgg117
  z26 := Tryd.sizeOf117
  v26 := Tryd.zeroValue117
  i26 := by kernel_rfl
  t32 := Tryd.underlying154
  a32 := Tryd.isAgg154
  z32 := Tryd.sizeOf154
  v32 := Tryd.zeroValue154
  i32 := by kernel_rfl
  t33 := Tryd.underlying155
  a33 := Tryd.isAgg155
  z33 := Tryd.sizeOf155
  v33 := Tryd.zeroValue155
  i33 := by kernel_rfl
  t35 := Tryd.underlying157
  a35 := Tryd.isAgg157
  z35 := Tryd.sizeOf157
  v35 := Tryd.zeroValue157
  i35 := by kernel_rfl
  t37 := Tryd.underlying159
  a37 := Tryd.isAgg159
  z37 := Tryd.sizeOf159
  v37 := Tryd.zeroValue159
  i37 := by kernel_rfl
  t41 := Tryd.underlying94
  a41 := Tryd.isAgg94
  z41 := Tryd.sizeOf94
  v41 := Tryd.zeroValue94
  i41 := by kernel_rfl
  t44 := Tryd.underlying164
  a44 := Tryd.isAgg164
  z44 := Tryd.sizeOf164
  v44 := Tryd.zeroValue164
  i44 := by kernel_rfl
  t49 := Tryd.underlying174
  a49 := Tryd.isAgg174
  z49 := Tryd.sizeOf174
  v49 := Tryd.zeroValue174
  i49 := by kernel_rfl
  t51 := Tryd.underlying118
  a51 := Tryd.isAgg118
  z51 := Tryd.sizeOf118
  v51 := Tryd.zeroValue118
  i51 := by kernel_rfl
  t53 := Tryd.underlying177
  a53 := Tryd.isAgg177
  z53 := Tryd.sizeOf177
  v53 := Tryd.zeroValue177
  i53 := by kernel_rfl
  t54 := Tryd.underlying178
  a54 := Tryd.isAgg178
  z54 := Tryd.sizeOf178
  v54 := Tryd.zeroValue178
  i54 := by kernel_rfl
  t58 := Tryd.underlying101
  a58 := Tryd.isAgg101
  z58 := Tryd.sizeOf101
  v58 := Tryd.zeroValue101
  i58 := by kernel_rfl
  t60 := Tryd.underlying192
  a60 := Tryd.isAgg192
  z60 := Tryd.sizeOf192
  v60 := Tryd.zeroValue192
  i60 := by kernel_rfl
  t64 := Tryd.underlying196
  a64 := Tryd.isAgg196
  z64 := Tryd.sizeOf196
  v64 := Tryd.zeroValue196
  i64 := by kernel_rfl
  t66 := Tryd.underlying202
  a66 := Tryd.isAgg202
  z66 := Tryd.sizeOf202
  v66 := Tryd.zeroValue202
  i66 := by kernel_rfl
  t67 := Tryd.underlying203
  a67 := Tryd.isAgg203
  z67 := Tryd.sizeOf203
  v67 := Tryd.zeroValue203
  i67 := by kernel_rfl
  t75 := Tryd.underlying210
  a75 := Tryd.isAgg210
  z75 := Tryd.sizeOf210
  v75 := Tryd.zeroValue210
  i75 := by kernel_rfl
  t76 := Tryd.underlying211
  a76 := Tryd.isAgg211
  z76 := Tryd.sizeOf211
  v76 := Tryd.zeroValue211
  i76 := by kernel_rfl
  t77 := Tryd.underlying212
  a77 := Tryd.isAgg212
  z77 := Tryd.sizeOf212
  v77 := Tryd.zeroValue212
  i77 := by kernel_rfl
  t78 := Tryd.underlying166
  a78 := Tryd.isAgg166
  z78 := Tryd.sizeOf166
  v78 := Tryd.zeroValue166
  i78 := by kernel_rfl
  t79 := Tryd.underlying213
  a79 := Tryd.isAgg213
  z79 := Tryd.sizeOf213
  v79 := Tryd.zeroValue213
  i79 := by kernel_rfl
  t80 := Tryd.underlying214
  a80 := Tryd.isAgg214
  z80 := Tryd.sizeOf214
  v80 := Tryd.zeroValue214
  i80 := by kernel_rfl
  t82 := Tryd.underlying216
  a82 := Tryd.isAgg216
  z82 := Tryd.sizeOf216
  v82 := Tryd.zeroValue216
  i82 := by kernel_rfl }
end Go.Proofs.YtghemmmkbpfdhaaDoor

/- Contracts and lemmas for the proofs of this seat; each theorem states its own conditions. -/
namespace Go.Proofs.YtghemmmkbpfdhaaDoor
open Go.RowKit Go.Shelf
/-- strings compared -/
def cmpB (a b : ByteArray) : Int := if blt a b then -1 else if a = b then 0 else 1
theorem cmpL : ∀ x y : List UInt8, Lib.compareBytes x y = if Op.bytesLess x y then -1 else if x = y then 0 else 1
  | [], [] => rfl
  | [], _ :: _ => rfl
  | _ :: _, [] => by simp [Lib.compareBytes, Op.bytesLess]
  | a :: x, b :: y => by
    have ih := cmpL x y
    simp only [Lib.compareBytes, Op.bytesLess]
    by_cases h1 : a < b
    · simp [h1]
    · by_cases h2 : b < a
      · have hne : a ≠ b := by rintro rfl; exact h1 h2
        simp [h1, h2, hne]
      · have he : a = b := by
          rw [u8_lt] at h1 h2
          exact u8_eq.2 (by omega)
        subst he
        simp [ih, UInt8.lt_irrefl]
theorem cmp_eq (a b : ByteArray) : Lib.compareBytes a.data.toList b.data.toList = cmpB a b := by
  rw [cmpL, ← toList_data, ← toList_data]
  unfold cmpB blt
  have : (a.toList = b.toList) = (a = b) := propext ⟨toList_inj, fun h => by rw [h]⟩
  simp only [this]
theorem cmpB_lt {a b : ByteArray} (h : blt a b = true) : cmpB a b = -1 := by simp [cmpB, h]
theorem cmpB_ge {a b : ByteArray} (h : blt a b = false) : 0 ≤ cmpB a b := by
  unfold cmpB; rw [if_neg (by simp [h])]; split <;> decide
theorem cmpB_zero {a b : ByteArray} (h : blt a b = false) : (cmpB a b == 0) = (a.toList == b.toList) := by
  by_cases e : a = b
  · subst e; simp [cmpB, h]
  · have : (a.toList == b.toList) = false := by
      simp; exact fun h => e (toList_inj h)
    rw [this]; simp [cmpB, h, e]
theorem hit_lt {ks : List ByteArray} {t : ByteArray} {i : Nat} (h : hitS ks t i = true) : i < ks.length := by
  simp only [hitS, Bool.and_eq_true, decide_eq_true_eq] at h; exact h.1
end Go.Proofs.YtghemmmkbpfdhaaDoor
