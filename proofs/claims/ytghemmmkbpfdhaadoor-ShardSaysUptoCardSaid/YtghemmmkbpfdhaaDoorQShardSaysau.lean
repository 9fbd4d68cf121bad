/- Contracts and lemmas for the proof of ShardSays; each theorem states its own conditions. -/
import Derived.Test.YtghemmmkbpfdhaaDoorQShardSaysac
import Derived.Test.YtghemmmkbpfdhaaDoorQShardSaysat
import Derived.Deep.QuietTactic
import Derived.BigQuiet
import Derived.Shelf.Small.Strs
import Derived.Shelf.Sort.Plain
import Derived.Ground.GgsProg
import Derived.Shelf.GgSortFunc.Tiny
import Derived.Shelf.Slices.CompactS
import Derived.Shelf.Slices.Cells
import Derived.Shelf.Slices.In.SortNone
import Derived.Shelf.SlSortFuncK.WholeK
import Derived.Test.YtghemmmkbpfdhaaDoorProg
import Derived.Test.YtghemmmkbpfdhaaDoorQShardSaysaa
set_option linter.unusedVariables false
set_option linter.unusedSimpArgs false
/- Contracts and lemmas for the proofs of this seat; each theorem states its own conditions. -/
namespace Go.Proofs.YtghemmmkbpfdhaaDoor
open Go.RowKit
theorem value_any (n : Int) (w : World) : Calls Tryd.prog 112 #[.int .i64 n] w fun e w' => e = .returned (.bool (valB n)) ∧ w = w' := by
  by_cases h1 : -1000000000 ≤ n
  · by_cases h2 : n ≤ 1000000000
    · have HV := hid (show valB n = true by simp [valB, h1, h2])
      go_enter Tryd.func112, Tryd.ntmps112
      go_wp2
      go_ret
      exact ⟨rB HV.out.symm, rfl⟩
    · have HV := hid (show valB n = false by simp [valB, h2])
      have h2' : 1000000000 < n := by omega
      go_enter Tryd.func112, Tryd.ntmps112
      go_wp2
      go_ret
      exact ⟨rB HV.out.symm, rfl⟩
  · have HV := hid (show valB n = false by simp [valB, h1])
    have h1' : n < -1000000000 := by omega
    go_enter Tryd.func112, Tryd.ntmps112
    go_wp2
    go_ret
    exact ⟨rB HV.out.symm, rfl⟩
theorem seg_pair {w : World} {b off : Nat} {l : Prs} (hc : ∀ j u, (cP l)[j]? = some u → w.cell? ⟨b, off + j, none⟩ = some u) {k : Nat} (hk : k < l.length) :
    w.cell? ⟨b, off + k * 2, none⟩ = some (.string l[k].1) ∧ w.cell? ⟨b, off + k * 2 + 1, none⟩ = some (.int .i64 l[k].2) :=
  ⟨hc _ _ (cP_at0 l k hk), by rw [Nat.add_assoc]; exact hc _ _ (cP_at1 l k hk)⟩
theorem pairErr_key {l : Prs} {k : Nat} (hk : k < l.length) (h : keyB l[k].1 = false) : pairErr l k = 3 := by rw [pairErr_at hk, if_pos h]
theorem pairErr_val {l : Prs} {k : Nat} (hk : k < l.length) (h : keyB l[k].1 = true) (h2 : valB l[k].2 = false ∨ l[k].2 = 0) : pairErr l k = 1 := by rw [pairErr_at hk, if_neg (by simp [h]), if_pos h2]
theorem pairErr_ord {l : Prs} {k : Nat} (hk : k < l.length) (h : keyB l[k].1 = true) (h2 : valB l[k].2 = true) (h3 : l[k].2 ≠ 0) (h4 : 0 < k) (h5 : blt (l[k - 1]'(by omega)).1 l[k].1 = false) : pairErr l k = 3 := by
  rw [pairErr_at hk, if_neg (by simp [h]), if_neg (by simp [h2, h3]), if_pos ⟨h4, h5⟩]
theorem pairErr_no {l : Prs} {k : Nat} (hk : k < l.length) (h : keyB l[k].1 = true) (h2 : valB l[k].2 = true) (h3 : l[k].2 ≠ 0) (h5 : 0 < k → blt (l[k - 1]'(by omega)).1 l[k].1 = true) : pairErr l k = 0 := by
  rw [pairErr_at hk, if_neg (by simp [h]), if_neg (by simp [h2, h3]), if_neg]
  rintro ⟨h6, h7⟩; rw [h5 h6] at h7; cases h7
theorem zeroTo_succ {f : Nat → Int} {k : Nat} (h : ∀ j, j < k → f j = 0) (hk : f k = 0) : ∀ j, j < k + 1 → f j = 0 := by
  intro j hj
  rcases Nat.lt_succ_iff_lt_or_eq.1 hj with h' | h'
  · exact h j h'
  · subst h'; exact hk
def zeroTo (f : Nat → Int) (k : Nat) : Prop := ∀ j, j < k → f j = 0
set_option maxRecDepth 10000 in
set_option maxHeartbeats 1000000 in
theorem scheck_any (v : Value) (l : Prs) (w : World) (hv : Seg w v 2 l.length (cP l)) (hk : ∀ p ∈ l, p.1.size ≤ 9223372036854775807) :
    Calls Tryd.prog 76 #[v] w fun e w' => e = .returned (.int .i64 (storeErr l)) ∧ Ext w w' := by
  obtain ⟨h0, a, cap, rfl, h1, h2, h3⟩ := hv
  unfold maxLen at h2
  go_enter Tryd.func76, Tryd.ntmps76
  go_wp2
  go_loopw [2, 3, 4, 7] (fun r _ _ i wr => ∃ k : Nat, k ≤ l.length ∧ i = .int .i64 k ∧ r = .int .i64 0 ∧ zeroTo (pairErr l) k ∧ Ext w wr) (fun _ _ _ i _ => l.length - (intOf i).toNat)
  case atStart => exact ⟨0, Nat.zero_le _, rfl, rfl, fun j h => absurd h (by omega), Ext.refl _⟩
  case round =>
    obtain ⟨k, hkl, rfl, rfl, hall, E⟩ := hrel
    by_cases hlt : k < l.length
    · obtain ⟨b, off, rfl, hc⟩ := h3 (by omega)
      have c := seg_pair hc hlt
      have c0 := E.cell c.1
      have c1 := E.cell c.2
      have hsz := hk l[k] (List.getElem_mem hlt)
      have bx := heap_alloc_new wr (.cells #[.string l[k].1, .int .i64 l[k].2] 77)
      have xx := blk2 bx
      have EA := (Ext.refl wr).alloc (.cells #[.string l[k].1, .int .i64 l[k].2] 77)
      cases hkey : keyB l[k].1 with
      | false =>
        have HF := hid (firstE_at hall (show pairErr l k ≠ 0 by rw [pairErr_key hlt hkey]; omega) hlt)
        have HG := hid (pairErr_key hlt hkey)
        clear hall hc h3
        go_wp2_with fail
        refine (key_any _ _ hsz).mono ?_
        rintro e w' ⟨rfl, rfl⟩
        go_wp2
        go_ret
        exact ⟨rI (by unfold storeErr; rw [HF.out, HG.out]), E.trans EA⟩
      | true =>
        cases hvb : valB l[k].2 with
        | false =>
          have HF := hid (firstE_at hall (show pairErr l k ≠ 0 by rw [pairErr_val hlt hkey (.inl hvb)]; omega) hlt)
          have HG := hid (pairErr_val hlt hkey (.inl hvb))
          clear hall hc h3
          go_wp2_with fail
          refine (key_any _ _ hsz).mono ?_
          rintro e w' ⟨rfl, rfl⟩
          go_wp2_with fail
          refine (value_any _ _).mono ?_
          rintro e w' ⟨rfl, rfl⟩
          go_wp2
          go_ret
          exact ⟨rI (by unfold storeErr; rw [HF.out, HG.out]), E.trans EA⟩
        | true =>
          by_cases hz : l[k].2 = 0
          · have hz' : (l[k].2 == 0) = true := by simp [hz]
            have HF := hid (firstE_at hall (show pairErr l k ≠ 0 by rw [pairErr_val hlt hkey (.inr hz)]; omega) hlt)
            have HG := hid (pairErr_val hlt hkey (.inr hz))
            clear hall hc h3 hz
            go_wp2_with fail
            refine (key_any _ _ hsz).mono ?_
            rintro e w' ⟨rfl, rfl⟩
            go_wp2_with fail
            refine (value_any _ _).mono ?_
            rintro e w' ⟨rfl, rfl⟩
            go_wp2
            go_ret
            exact ⟨rI (by unfold storeErr; rw [HF.out, HG.out]), E.trans EA⟩
          · have hz' : (l[k].2 == 0) = false := by simp [hz]
            have HZ := hid hz
            clear hz
            cases k with
            | zero =>
              have hs := zeroTo_succ hall (pairErr_no hlt hkey hvb HZ.out (fun h => absurd h (by omega)))
              have HS := hid hs
              simp only [Nat.zero_mul, Nat.add_zero] at c0 c1
              clear hall hs hc h3
              go_wp2_with fail
              refine (key_any _ _ hsz).mono ?_
              rintro e w' ⟨rfl, rfl⟩
              go_wp2_with fail
              refine (value_any _ _).mono ?_
              rintro e w' ⟨rfl, rfl⟩
              go_wp2_with fail
              go_quiet (fail)
              go_wp2
              go_roundw
              case rel => exact ⟨1, by omega, by go_num, rfl, HS.out, (E.trans EA).drewN _⟩
              case measure => simp [intOf]; omega
            | succ k =>
              have d0 := EA.cell (E.cell (seg_pair hc (show k < l.length by omega)).1)
              cases hb : blt (l[k]'(by omega)).1 l[k + 1].1 with
              | false =>
                have hb' : Op.bytesLess (l[k]'(by omega)).1.toList l[k + 1].1.toList = false := hb
                have HG := hid (pairErr_ord hlt hkey hvb HZ.out (by omega) hb)
                have HF := hid (firstE_at hall (show pairErr l (k + 1) ≠ 0 by rw [HG.out]; omega) hlt)
                clear hall hc h3
                go_wp2_with fail
                refine (key_any _ _ hsz).mono ?_
                rintro e w' ⟨rfl, rfl⟩
                go_wp2_with fail
                refine (value_any _ _).mono ?_
                rintro e w' ⟨rfl, rfl⟩
                go_wp2_with fail
                go_quiet (fail)
                go_wp2
                go_ret
                exact ⟨rI (by unfold storeErr; rw [HF.out, HG.out]), by (repeat (first | (with_reducible assumption) | (with_reducible exact Ext.refl _) | (with_reducible refine Ext.drew ?_) | (with_reducible refine Ext.drewN ?_ _) | (with_reducible refine Ext.alloc ?_ _) | (with_reducible refine Ext.trans ?_ (by with_reducible assumption))))⟩
              | true =>
                have hb' : Op.bytesLess (l[k]'(by omega)).1.toList l[k + 1].1.toList = true := hb
                have HS := hid (zeroTo_succ hall (pairErr_no hlt hkey hvb HZ.out (fun _ => hb)))
                clear hall hc h3
                go_wp2_with fail
                refine (key_any _ _ hsz).mono ?_
                rintro e w' ⟨rfl, rfl⟩
                go_wp2_with fail
                refine (value_any _ _).mono ?_
                rintro e w' ⟨rfl, rfl⟩
                go_wp2_with fail
                go_quiet (fail)
                go_wp2
                go_roundw
                case rel => exact ⟨k + 1 + 1, by omega, by go_num, rfl, HS.out, (E.trans EA).drewN _⟩
                case measure => simp [intOf]; omega
    · go_wp2
      go_ret
      obtain rfl : k = l.length := by omega
      exact ⟨rI (firstE_zero hall).symm, E⟩
end Go.Proofs.YtghemmmkbpfdhaaDoor

/- Contracts and lemmas for the proofs of this seat; each theorem states its own conditions. -/
namespace Go.Proofs.YtghemmmkbpfdhaaDoor
open Go.Shelf
def laysGg6_ren : Go.Shelf.Ren := ⟨fun | 6 => 81 | 10 => 114 | 11 => 115 | 12 => 116 | 13 => 117 | 14 => 118 | 24 => 139 | 25 => 140 | 26 => 141 | 27 => 142 | 28 => 143 | 29 => 144 | 30 => 145 | 31 => 146 | 32 => 147 | 33 => 148 | 34 => 156 | 35 => 157 | 36 => 158 | 37 => 159 | 38 => 160 | 39 => 165 | n => n, fun | 20 => 20 | 26 => 117 | 35 => 157 | 0 => 0 | 37 => 159 | 3 => 3 | 41 => 94 | 44 => 164 | 49 => 174 | 51 => 118 | 4 => 4 | 54 => 178 | 53 => 177 | 58 => 101 | 5 => 5 | 9 => 9 | 60 => 192 | 64 => 196 | 66 => 202 | 67 => 203 | 17 => 17 | 32 => 154 | 33 => 155 | 82 => 216 | 12 => 12 | 75 => 210 | 76 => 211 | 77 => 212 | 78 => 166 | 79 => 213 | 80 => 214 | n => n, fun | n => n⟩
theorem laysGg6 : Go.Proofs.LaysGg.n6 Tryd.prog laysGg6_ren := {
  mixed := by kernel_rfl
  f6 := Tryd.func81.trans (congrArg some (by kernel_rfl))
  f10 := Tryd.func114.trans (congrArg some (by kernel_rfl))
  f11 := Tryd.func115.trans (congrArg some (by kernel_rfl))
  f12 := Tryd.func116.trans (congrArg some (by kernel_rfl))
  f13 := Tryd.func117.trans (congrArg some (by kernel_rfl))
  f14 := Tryd.func118.trans (congrArg some (by kernel_rfl))
  f24 := Tryd.func139.trans (congrArg some (by kernel_rfl))
  f25 := Tryd.func140.trans (congrArg some (by kernel_rfl))
  f26 := Tryd.func141.trans (congrArg some (by kernel_rfl))
  f27 := Tryd.func142.trans (congrArg some (by kernel_rfl))
  f28 := Tryd.func143.trans (congrArg some (by kernel_rfl))
  f29 := Tryd.func144.trans (congrArg some (by kernel_rfl))
  f30 := Tryd.func145.trans (congrArg some (by kernel_rfl))
  f31 := Tryd.func146.trans (congrArg some (by kernel_rfl))
  f32 := Tryd.func147.trans (congrArg some (by kernel_rfl))
  f33 := Tryd.func148.trans (congrArg some (by kernel_rfl))
  f34 := Tryd.func156.trans (congrArg some (by kernel_rfl))
  f35 := Tryd.func157.trans (congrArg some (by kernel_rfl))
  f36 := Tryd.func158.trans (congrArg some (by kernel_rfl))
  f37 := Tryd.func159.trans (congrArg some (by kernel_rfl))
  f38 := Tryd.func160.trans (congrArg some (by kernel_rfl))
  f39 := Tryd.func165.trans (congrArg some (by kernel_rfl))
  t0 := Tryd.underlying0
  a0 := Tryd.isAgg0
  z0 := Tryd.sizeOf0
  v0 := Tryd.zeroValue0
  i0 := by kernel_rfl
  t3 := Tryd.underlying3
  a3 := Tryd.isAgg3
  z3 := Tryd.sizeOf3
  v3 := Tryd.zeroValue3
  i3 := by kernel_rfl
  t4 := Tryd.underlying4
  a4 := Tryd.isAgg4
  z4 := Tryd.sizeOf4
  v4 := Tryd.zeroValue4
  i4 := by kernel_rfl
  t5 := Tryd.underlying5
  a5 := Tryd.isAgg5
  z5 := Tryd.sizeOf5
  v5 := Tryd.zeroValue5
  i5 := by kernel_rfl
  t9 := Tryd.underlying9
  a9 := Tryd.isAgg9
  z9 := Tryd.sizeOf9
  v9 := Tryd.zeroValue9
  i9 := by kernel_rfl
  t12 := Tryd.underlying12
  a12 := Tryd.isAgg12
  z12 := Tryd.sizeOf12
  v12 := Tryd.zeroValue12
  i12 := by kernel_rfl
  t17 := Tryd.underlying17
  a17 := Tryd.isAgg17
  z17 := Tryd.sizeOf17
  v17 := Tryd.zeroValue17
  i17 := by kernel_rfl
  t20 := Tryd.underlying20
  a20 := Tryd.isAgg20
  z20 := Tryd.sizeOf20
  v20 := Tryd.zeroValue20
  i20 := by kernel_rfl
  t26 := Tryd.underlying117
  a26 := Tryd.isAgg117
  z26 := Tryd.sizeOf117
  v26 := Tryd.zeroValue117
  i26 := by kernel_rfl
  t32 := Tryd.underlying154
  a32 := Tryd.isAgg154
  z32 := Tryd.sizeOf154
  v32 := Tryd.zeroValue154
  i32 := by kernel_rfl
  t33 := Tryd.underlying155
  a33 := Tryd.isAgg155
  z33 := Tryd.sizeOf155
  v33 := Tryd.zeroValue155
  i33 := by kernel_rfl
  t35 := Tryd.underlying157
  a35 := Tryd.isAgg157
  z35 := Tryd.sizeOf157
  v35 := Tryd.zeroValue157
  i35 := by kernel_rfl
  t37 := Tryd.underlying159
  a37 := Tryd.isAgg159
  z37 := Tryd.sizeOf159
  v37 := Tryd.zeroValue159
  i37 := by kernel_rfl
  t41 := Tryd.underlying94
  a41 := Tryd.isAgg94
  z41 := Tryd.sizeOf94
  v41 := Tryd.zeroValue94
  i41 := by kernel_rfl
  t44 := Tryd.underlying164
  a44 := Tryd.isAgg164
  z44 := Tryd.sizeOf164
  v44 := Tryd.zeroValue164
  i44 := by kernel_rfl
  t49 := Tryd.underlying174
  a49 := Tryd.isAgg174
  z49 := Tryd.sizeOf174
  v49 := Tryd.zeroValue174
  i49 := by kernel_rfl
  t51 := Tryd.underlying118
  a51 := Tryd.isAgg118
  z51 := Tryd.sizeOf118
  v51 := Tryd.zeroValue118
  i51 := by kernel_rfl
  t53 := Tryd.underlying177
  a53 := Tryd.isAgg177
  z53 := Tryd.sizeOf177
  v53 := Tryd.zeroValue177
  i53 := by kernel_rfl
  t54 := Tryd.underlying178
  a54 := Tryd.isAgg178
  z54 := Tryd.sizeOf178
  v54 := Tryd.zeroValue178
  i54 := by kernel_rfl
  t58 := Tryd.underlying101
  a58 := Tryd.isAgg101
  z58 := Tryd.sizeOf101
  v58 := Tryd.zeroValue101
  i58 := by kernel_rfl
  t60 := Tryd.underlying192
  a60 := Tryd.isAgg192
  z60 := Tryd.sizeOf192
  v60 := Tryd.zeroValue192
  i60 := by kernel_rfl
  t64 := Tryd.underlying196
  a64 := Tryd.isAgg196
  z64 := Tryd.sizeOf196
  v64 := Tryd.zeroValue196
  i64 := by kernel_rfl
  t66 := Tryd.underlying202
  a66 := Tryd.isAgg202
  z66 := Tryd.sizeOf202
  v66 := Tryd.zeroValue202
  i66 := by kernel_rfl
  t67 := Tryd.underlying203
  a67 := Tryd.isAgg203
  z67 := Tryd.sizeOf203
  v67 := Tryd.zeroValue203
  i67 := by kernel_rfl
  t75 := Tryd.underlying210
  a75 := Tryd.isAgg210
  z75 := Tryd.sizeOf210
  v75 := Tryd.zeroValue210
  i75 := by kernel_rfl
  t76 := Tryd.underlying211
  a76 := Tryd.isAgg211
  z76 := Tryd.sizeOf211
  v76 := Tryd.zeroValue211
  i76 := by kernel_rfl
  t77 := Tryd.underlying212
  a77 := Tryd.isAgg212
  z77 := Tryd.sizeOf212
  v77 := Tryd.zeroValue212
  i77 := by kernel_rfl
  t78 := Tryd.underlying166
  a78 := Tryd.isAgg166
  z78 := Tryd.sizeOf166
  v78 := Tryd.zeroValue166
  i78 := by kernel_rfl
  t79 := Tryd.underlying213
  a79 := Tryd.isAgg213
  z79 := Tryd.sizeOf213
  v79 := Tryd.zeroValue213
  i79 := by kernel_rfl
  t80 := Tryd.underlying214
  a80 := Tryd.isAgg214
  z80 := Tryd.sizeOf214
  v80 := Tryd.zeroValue214
  i80 := by kernel_rfl
  t82 := Tryd.underlying216
  a82 := Tryd.isAgg216
  z82 := Tryd.sizeOf216
  v82 := Tryd.zeroValue216
  i82 := by kernel_rfl }
end Go.Proofs.YtghemmmkbpfdhaaDoor
