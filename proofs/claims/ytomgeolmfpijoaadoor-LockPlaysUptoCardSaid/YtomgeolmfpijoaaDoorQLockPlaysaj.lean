/- Contracts and lemmas for the proof of LockPlays; each theorem states its own conditions. -/
import Derived.Test.YtomgeolmfpijoaaDoorQLockPlaysac
import Derived.Test.YtomgeolmfpijoaaDoorQLockPlaysai
import Derived.Deep.QuietTactic
import Derived.BigQuiet
import Derived.Shelf.Small.Strs
import Derived.Shelf.Sort.Plain
import Derived.Ground.GgsProg
import Derived.Shelf.GgSortFunc.Tiny
import Derived.Shelf.Slices.CompactS
import Derived.Shelf.Slices.Cells
import Derived.Shelf.Slices.In.SortNone
import Derived.Shelf.SlSortFuncK.WholeK
import Derived.Test.YtomgeolmfpijoaaDoorProg
import Derived.Test.YtomgeolmfpijoaaDoorQLockPlaysaa
set_option linter.unusedVariables false
set_option linter.unusedSimpArgs false
/- Contracts and lemmas for the proofs of this seat; each theorem states its own conditions. -/
namespace Go.Proofs.YtomgeolmfpijoaaDoor
open Go.RowKit
theorem value_any (n : Int) (w : World) : Calls Tryd.prog 156 #[.int .i64 n] w fun e w' => e = .returned (.bool (valB n)) ∧ w = w' := by
  by_cases h1 : -1000000000 ≤ n
  · by_cases h2 : n ≤ 1000000000
    · have HV := hid (show valB n = true by simp [valB, h1, h2])
      go_enter Tryd.func156, Tryd.ntmps156
      go_wp2
      go_ret
      exact ⟨rB HV.out.symm, rfl⟩
    · have HV := hid (show valB n = false by simp [valB, h2])
      have h2' : 1000000000 < n := by omega
      go_enter Tryd.func156, Tryd.ntmps156
      go_wp2
      go_ret
      exact ⟨rB HV.out.symm, rfl⟩
  · have HV := hid (show valB n = false by simp [valB, h1])
    have h1' : n < -1000000000 := by omega
    go_enter Tryd.func156, Tryd.ntmps156
    go_wp2
    go_ret
    exact ⟨rB HV.out.symm, rfl⟩
theorem seg_pair {w : World} {b off : Nat} {l : Prs} (hc : ∀ j u, (cP l)[j]? = some u → w.cell? ⟨b, off + j, none⟩ = some u) {k : Nat} (hk : k < l.length) :
    w.cell? ⟨b, off + k * 2, none⟩ = some (.string l[k].1) ∧ w.cell? ⟨b, off + k * 2 + 1, none⟩ = some (.int .i64 l[k].2) :=
  ⟨hc _ _ (cP_at0 l k hk), by rw [Nat.add_assoc]; exact hc _ _ (cP_at1 l k hk)⟩
theorem pairErr_key {l : Prs} {k : Nat} (hk : k < l.length) (h : keyB l[k].1 = false) : pairErr l k = 3 := by rw [pairErr_at hk, if_pos h]
theorem pairErr_val {l : Prs} {k : Nat} (hk : k < l.length) (h : keyB l[k].1 = true) (h2 : valB l[k].2 = false ∨ l[k].2 = 0) : pairErr l k = 1 := by rw [pairErr_at hk, if_neg (by simp [h]), if_pos h2]
theorem pairErr_ord {l : Prs} {k : Nat} (hk : k < l.length) (h : keyB l[k].1 = true) (h2 : valB l[k].2 = true) (h3 : l[k].2 ≠ 0) (h4 : 0 < k) (h5 : blt (l[k - 1]'(by omega)).1 l[k].1 = false) : pairErr l k = 3 := by
  rw [pairErr_at hk, if_neg (by simp [h]), if_neg (by simp [h2, h3]), if_pos ⟨h4, h5⟩]
theorem pairErr_no {l : Prs} {k : Nat} (hk : k < l.length) (h : keyB l[k].1 = true) (h2 : valB l[k].2 = true) (h3 : l[k].2 ≠ 0) (h5 : 0 < k → blt (l[k - 1]'(by omega)).1 l[k].1 = true) : pairErr l k = 0 := by
  rw [pairErr_at hk, if_neg (by simp [h]), if_neg (by simp [h2, h3]), if_neg]
  rintro ⟨h6, h7⟩; rw [h5 h6] at h7; cases h7
theorem zeroTo_succ {f : Nat → Int} {k : Nat} (h : ∀ j, j < k → f j = 0) (hk : f k = 0) : ∀ j, j < k + 1 → f j = 0 := by
  intro j hj
  rcases Nat.lt_succ_iff_lt_or_eq.1 hj with h' | h'
  · exact h j h'
  · subst h'; exact hk
def zeroTo (f : Nat → Int) (k : Nat) : Prop := ∀ j, j < k → f j = 0
set_option maxRecDepth 10000 in
set_option maxHeartbeats 1000000 in
theorem scheck_any (v : Value) (l : Prs) (w : World) (hv : Seg w v 2 l.length (cP l)) (hk : ∀ p ∈ l, p.1.size ≤ 9223372036854775807) :
    Calls Tryd.prog 113 #[v] w fun e w' => e = .returned (.int .i64 (storeErr l)) ∧ Ext w w' := by
  obtain ⟨h0, a, cap, rfl, h1, h2, h3⟩ := hv
  unfold maxLen at h2
  go_enter Tryd.func113, Tryd.ntmps113
  go_wp2
  go_loopw [2, 3, 4, 7] (fun r _ _ i wr => ∃ k : Nat, k ≤ l.length ∧ i = .int .i64 k ∧ r = .int .i64 0 ∧ zeroTo (pairErr l) k ∧ Ext w wr) (fun _ _ _ i _ => l.length - (intOf i).toNat)
  case atStart => exact ⟨0, Nat.zero_le _, rfl, rfl, fun j h => absurd h (by omega), Ext.refl _⟩
  case round =>
    obtain ⟨k, hkl, rfl, rfl, hall, E⟩ := hrel
    by_cases hlt : k < l.length
    · obtain ⟨b, off, rfl, hc⟩ := h3 (by omega)
      have c := seg_pair hc hlt
      have c0 := E.cell c.1
      have c1 := E.cell c.2
      have hsz := hk l[k] (List.getElem_mem hlt)
      have bx := heap_alloc_new wr (.cells #[.string l[k].1, .int .i64 l[k].2] 98)
      have xx := blk2 bx
      have EA := (Ext.refl wr).alloc (.cells #[.string l[k].1, .int .i64 l[k].2] 98)
      cases hkey : keyB l[k].1 with
      | false =>
        have HF := hid (firstE_at hall (show pairErr l k ≠ 0 by rw [pairErr_key hlt hkey]; omega) hlt)
        have HG := hid (pairErr_key hlt hkey)
        clear hall hc h3
        go_wp2_with fail
        refine (key_any _ _ hsz).mono ?_
        rintro e w' ⟨rfl, rfl⟩
        go_wp2
        go_ret
        exact ⟨rI (by unfold storeErr; rw [HF.out, HG.out]), E.trans EA⟩
      | true =>
        cases hvb : valB l[k].2 with
        | false =>
          have HF := hid (firstE_at hall (show pairErr l k ≠ 0 by rw [pairErr_val hlt hkey (.inl hvb)]; omega) hlt)
          have HG := hid (pairErr_val hlt hkey (.inl hvb))
          clear hall hc h3
          go_wp2_with fail
          refine (key_any _ _ hsz).mono ?_
          rintro e w' ⟨rfl, rfl⟩
          go_wp2_with fail
          refine (value_any _ _).mono ?_
          rintro e w' ⟨rfl, rfl⟩
          go_wp2
          go_ret
          exact ⟨rI (by unfold storeErr; rw [HF.out, HG.out]), E.trans EA⟩
        | true =>
          by_cases hz : l[k].2 = 0
          · have hz' : (l[k].2 == 0) = true := by simp [hz]
            have HF := hid (firstE_at hall (show pairErr l k ≠ 0 by rw [pairErr_val hlt hkey (.inr hz)]; omega) hlt)
            have HG := hid (pairErr_val hlt hkey (.inr hz))
            clear hall hc h3 hz
            go_wp2_with fail
            refine (key_any _ _ hsz).mono ?_
            rintro e w' ⟨rfl, rfl⟩
            go_wp2_with fail
            refine (value_any _ _).mono ?_
            rintro e w' ⟨rfl, rfl⟩
            go_wp2
            go_ret
            exact ⟨rI (by unfold storeErr; rw [HF.out, HG.out]), E.trans EA⟩
          · have hz' : (l[k].2 == 0) = false := by simp [hz]
            have HZ := hid hz
            clear hz
            cases k with
            | zero =>
              have hs := zeroTo_succ hall (pairErr_no hlt hkey hvb HZ.out (fun h => absurd h (by omega)))
              have HS := hid hs
              simp only [Nat.zero_mul, Nat.add_zero] at c0 c1
              clear hall hs hc h3
              go_wp2_with fail
              refine (key_any _ _ hsz).mono ?_
              rintro e w' ⟨rfl, rfl⟩
              go_wp2_with fail
              refine (value_any _ _).mono ?_
              rintro e w' ⟨rfl, rfl⟩
              go_wp2_with fail
              go_quiet (fail)
              go_wp2
              go_roundw
              case rel => exact ⟨1, by omega, by go_num, rfl, HS.out, (E.trans EA).drewN _⟩
              case measure => simp [intOf]; omega
            | succ k =>
              have d0 := EA.cell (E.cell (seg_pair hc (show k < l.length by omega)).1)
              cases hb : blt (l[k]'(by omega)).1 l[k + 1].1 with
              | false =>
                have hb' : Op.bytesLess (l[k]'(by omega)).1.toList l[k + 1].1.toList = false := hb
                have HG := hid (pairErr_ord hlt hkey hvb HZ.out (by omega) hb)
                have HF := hid (firstE_at hall (show pairErr l (k + 1) ≠ 0 by rw [HG.out]; omega) hlt)
                clear hall hc h3
                go_wp2_with fail
                refine (key_any _ _ hsz).mono ?_
                rintro e w' ⟨rfl, rfl⟩
                go_wp2_with fail
                refine (value_any _ _).mono ?_
                rintro e w' ⟨rfl, rfl⟩
                go_wp2_with fail
                go_quiet (fail)
                go_wp2
                go_ret
                exact ⟨rI (by unfold storeErr; rw [HF.out, HG.out]), by (repeat (first | (with_reducible assumption) | (with_reducible exact Ext.refl _) | (with_reducible refine Ext.drew ?_) | (with_reducible refine Ext.drewN ?_ _) | (with_reducible refine Ext.alloc ?_ _) | (with_reducible refine Ext.trans ?_ (by with_reducible assumption))))⟩
              | true =>
                have hb' : Op.bytesLess (l[k]'(by omega)).1.toList l[k + 1].1.toList = true := hb
                have HS := hid (zeroTo_succ hall (pairErr_no hlt hkey hvb HZ.out (fun _ => hb)))
                clear hall hc h3
                go_wp2_with fail
                refine (key_any _ _ hsz).mono ?_
                rintro e w' ⟨rfl, rfl⟩
                go_wp2_with fail
                refine (value_any _ _).mono ?_
                rintro e w' ⟨rfl, rfl⟩
                go_wp2_with fail
                go_quiet (fail)
                go_wp2
                go_roundw
                case rel => exact ⟨k + 1 + 1, by omega, by go_num, rfl, HS.out, (E.trans EA).drewN _⟩
                case measure => simp [intOf]; omega
    · go_wp2
      go_ret
      obtain rfl : k = l.length := by omega
      exact ⟨rI (firstE_zero hall).symm, E⟩
end Go.Proofs.YtomgeolmfpijoaaDoor

/- Contracts and lemmas for the proofs of this seat; each theorem states its own conditions. -/
namespace Go.Proofs.YtomgeolmfpijoaaDoor
open Go.Shelf
def lays106_ren : Go.Shelf.Ren := ⟨fun | 106 => 225 | 213 => 234 | 265 => 237 | n => n, fun | 9 => 9 | 3 => 3 | n => n, fun | n => n⟩
theorem lays106 : Go.Proofs.Lays.n106 Tryd.prog lays106_ren := {
  mixed := by kernel_rfl
  f106 := Tryd.func225.trans (congrArg some (by kernel_rfl))
  f213 := Tryd.func234.trans (congrArg some (by kernel_rfl))
  f265 := Tryd.func237.trans (congrArg some (by kernel_rfl))
  t3 := Tryd.underlying3
  a3 := Tryd.isAgg3
  z3 := Tryd.sizeOf3
  v3 := Tryd.zeroValue3
  t9 := Tryd.underlying9
  a9 := Tryd.isAgg9
  z9 := Tryd.sizeOf9
  v9 := Tryd.zeroValue9 }
def lays190_ren : Go.Shelf.Ren := ⟨fun | 190 => 104 | 125 => 151 | 258 => 150 | 128 => 183 | 129 => 184 | 302 => 175 | 303 => 176 | 304 => 177 | 305 => 178 | 306 => 179 | 307 => 180 | 308 => 132 | 309 => 181 | 310 => 182 | 333 => 213 | 329 => 214 | 330 => 215 | 334 => 216 | 335 => 217 | 336 => 169 | 344 => 232 | n => n, fun | 31 => 26 | 9 => 9 | 3 => 3 | 46 => 127 | 0 => 0 | 51 => 235 | 53 => 171 | 4 => 4 | 183 => 229 | 182 => 228 | 131 => 133 | 5 => 5 | 218 => 258 | 222 => 262 | 228 => 274 | 229 => 275 | n => n, fun | n => n⟩
theorem lays190 : Go.Proofs.Lays.n190 Tryd.prog lays190_ren := {
  mixed := by kernel_rfl
  f125 := Tryd.func151.trans (congrArg some (by kernel_rfl))
  f128 := Tryd.func183.trans (congrArg some (by kernel_rfl))
  f129 := Tryd.func184.trans (congrArg some (by kernel_rfl))
  f190 := Tryd.func104.trans (congrArg some (by kernel_rfl))
  f258 := Tryd.func150.trans (congrArg some (by kernel_rfl))
  f302 := Tryd.func175.trans (congrArg some (by kernel_rfl))
  f303 := Tryd.func176.trans (congrArg some (by kernel_rfl))
  f304 := Tryd.func177.trans (congrArg some (by kernel_rfl))
  f305 := Tryd.func178.trans (congrArg some (by kernel_rfl))
  f306 := Tryd.func179.trans (congrArg some (by kernel_rfl))
  f307 := Tryd.func180.trans (congrArg some (by kernel_rfl))
  f308 := Tryd.func132.trans (congrArg some (by kernel_rfl))
  f309 := Tryd.func181.trans (congrArg some (by kernel_rfl))
  f310 := Tryd.func182.trans (congrArg some (by kernel_rfl))
  f329 := Tryd.func214.trans (congrArg some (by kernel_rfl))
  f330 := Tryd.func215.trans (congrArg some (by kernel_rfl))
  f333 := Tryd.func213.trans (congrArg some (by kernel_rfl))
  f334 := Tryd.func216.trans (congrArg some (by kernel_rfl))
  f335 := Tryd.func217.trans (congrArg some (by kernel_rfl))
  f336 := Tryd.func169.trans (congrArg some (by kernel_rfl))
  f344 := Tryd.func232.trans (congrArg some (by kernel_rfl))
  t0 := Tryd.underlying0
  a0 := Tryd.isAgg0
  z0 := Tryd.sizeOf0
  v0 := Tryd.zeroValue0
  t3 := Tryd.underlying3
  a3 := Tryd.isAgg3
  z3 := Tryd.sizeOf3
  v3 := Tryd.zeroValue3
  t4 := Tryd.underlying4
  a4 := Tryd.isAgg4
  z4 := Tryd.sizeOf4
  v4 := Tryd.zeroValue4
  t5 := Tryd.underlying5
  a5 := Tryd.isAgg5
  z5 := Tryd.sizeOf5
  v5 := Tryd.zeroValue5
  t9 := Tryd.underlying9
  a9 := Tryd.isAgg9
  z9 := Tryd.sizeOf9
  v9 := Tryd.zeroValue9
  t31 := Tryd.underlying26
  a31 := Tryd.isAgg26
  z31 := Tryd.sizeOf26
  v31 := Tryd.zeroValue26
  t46 := Tryd.underlying127
  a46 := Tryd.isAgg127
  z46 := Tryd.sizeOf127
  v46 := Tryd.zeroValue127
  t51 := Tryd.underlying235
  a51 := Tryd.isAgg235
  z51 := Tryd.sizeOf235
  v51 := Tryd.zeroValue235
  t53 := Tryd.underlying171
  a53 := Tryd.isAgg171
  z53 := Tryd.sizeOf171
  v53 := Tryd.zeroValue171
  t131 := Tryd.underlying133
  a131 := Tryd.isAgg133
  z131 := Tryd.sizeOf133
  v131 := Tryd.zeroValue133
  t182 := Tryd.underlying228
  a182 := Tryd.isAgg228
  z182 := Tryd.sizeOf228
  v182 := Tryd.zeroValue228
  t183 := Tryd.underlying229
  a183 := Tryd.isAgg229
  z183 := Tryd.sizeOf229
  v183 := Tryd.zeroValue229
  t218 := Tryd.underlying258
  a218 := Tryd.isAgg258
  z218 := Tryd.sizeOf258
  v218 := Tryd.zeroValue258
  t222 := Tryd.underlying262
  a222 := Tryd.isAgg262
  z222 := Tryd.sizeOf262
  v222 := Tryd.zeroValue262
  t228 := Tryd.underlying274
  a228 := Tryd.isAgg274
  z228 := Tryd.sizeOf274
  v228 := Tryd.zeroValue274
  t229 := Tryd.underlying275
  a229 := Tryd.isAgg275
  z229 := Tryd.sizeOf275
  v229 := Tryd.zeroValue275 }
def laysGg6_ren : Go.Shelf.Ren := ⟨fun | 6 => 117 | 10 => 158 | 11 => 159 | 12 => 160 | 13 => 151 | 14 => 161 | 24 => 183 | 25 => 184 | 26 => 195 | 27 => 196 | 28 => 197 | 29 => 198 | 30 => 199 | 31 => 200 | 32 => 201 | 33 => 202 | 34 => 218 | 35 => 219 | 36 => 220 | 37 => 221 | 38 => 222 | 39 => 233 | n => n, fun | 20 => 20 | 26 => 168 | 35 => 213 | 0 => 0 | 37 => 215 | 3 => 3 | 41 => 127 | 44 => 219 | 49 => 235 | 51 => 171 | 4 => 4 | 54 => 242 | 53 => 241 | 58 => 133 | 5 => 5 | 9 => 9 | 60 => 264 | 64 => 262 | 66 => 277 | 67 => 275 | 17 => 17 | 32 => 210 | 33 => 211 | 82 => 291 | 12 => 12 | 75 => 285 | 76 => 286 | 77 => 287 | 78 => 224 | 79 => 288 | 80 => 289 | n => n, fun | n => n⟩
theorem laysGg6 : Go.Proofs.LaysGg.n6 Tryd.prog laysGg6_ren := {
  mixed := by kernel_rfl
  f6 := Tryd.func117.trans (congrArg some (by kernel_rfl))
  f10 := Tryd.func158.trans (congrArg some (by kernel_rfl))
  f11 := Tryd.func159.trans (congrArg some (by kernel_rfl))
  f12 := Tryd.func160.trans (congrArg some (by kernel_rfl))
  f13 := Tryd.func151.trans (congrArg some (by kernel_rfl))
  f14 := Tryd.func161.trans (congrArg some (by kernel_rfl))
  f24 := Tryd.func183.trans (congrArg some (by kernel_rfl))
  f25 := Tryd.func184.trans (congrArg some (by kernel_rfl))
  f26 := Tryd.func195.trans (congrArg some (by kernel_rfl))
  f27 := Tryd.func196.trans (congrArg some (by kernel_rfl))
  f28 := Tryd.func197.trans (congrArg some (by kernel_rfl))
  f29 := Tryd.func198.trans (congrArg some (by kernel_rfl))
  f30 := Tryd.func199.trans (congrArg some (by kernel_rfl))
  f31 := Tryd.func200.trans (congrArg some (by kernel_rfl))
  f32 := Tryd.func201.trans (congrArg some (by kernel_rfl))
  f33 := Tryd.func202.trans (congrArg some (by kernel_rfl))
  f34 := Tryd.func218.trans (congrArg some (by kernel_rfl))
  f35 := Tryd.func219.trans (congrArg some (by kernel_rfl))
  f36 := Tryd.func220.trans (congrArg some (by kernel_rfl))
  f37 := Tryd.func221.trans (congrArg some (by kernel_rfl))
  f38 := Tryd.func222.trans (congrArg some (by kernel_rfl))
  f39 := Tryd.func233.trans (congrArg some (by kernel_rfl))
  t0 := Tryd.underlying0
  a0 := Tryd.isAgg0
  z0 := Tryd.sizeOf0
  v0 := Tryd.zeroValue0
  i0 := by kernel_rfl
  t3 := Tryd.underlying3
  a3 := Tryd.isAgg3
  z3 := Tryd.sizeOf3
  v3 := Tryd.zeroValue3
  i3 := by kernel_rfl
  t4 := Tryd.underlying4
  a4 := Tryd.isAgg4
  z4 := Tryd.sizeOf4
  v4 := Tryd.zeroValue4
  i4 := by kernel_rfl
  t5 := Tryd.underlying5
  a5 := Tryd.isAgg5
  z5 := Tryd.sizeOf5
  v5 := Tryd.zeroValue5
  i5 := by kernel_rfl
  t9 := Tryd.underlying9
  a9 := Tryd.isAgg9
  z9 := Tryd.sizeOf9
  v9 := Tryd.zeroValue9
  i9 := by kernel_rfl
  t12 := Tryd.underlying12
  a12 := Tryd.isAgg12
  z12 := Tryd.sizeOf12
  v12 := Tryd.zeroValue12
  i12 := by kernel_rfl
  t17 := Tryd.underlying17
  a17 := Tryd.isAgg17
  z17 := Tryd.sizeOf17
  v17 := Tryd.zeroValue17
  i17 := by kernel_rfl
  t20 := Tryd.underlying20
  a20 := Tryd.isAgg20
  z20 := Tryd.sizeOf20
  v20 := Tryd.zeroValue20
  i20 := by kernel_rfl
  t26 := Tryd.underlying168
  a26 := Tryd.isAgg168
  z26 := Tryd.sizeOf168
  v26 := Tryd.zeroValue168
  i26 := by kernel_rfl
  t32 := Tryd.underlying210
  a32 := Tryd.isAgg210
  z32 := Tryd.sizeOf210
  v32 := Tryd.zeroValue210
  i32 := by kernel_rfl
  t33 := Tryd.underlying211
  a33 := Tryd.isAgg211
  z33 := Tryd.sizeOf211
  v33 := Tryd.zeroValue211
  i33 := by kernel_rfl
  t35 := Tryd.underlying213
  a35 := Tryd.isAgg213
  z35 := Tryd.sizeOf213
  v35 := Tryd.zeroValue213
  i35 := by kernel_rfl
  t37 := Tryd.underlying215
  a37 := Tryd.isAgg215
  z37 := Tryd.sizeOf215
  v37 := Tryd.zeroValue215
  i37 := by kernel_rfl
  t41 := Tryd.underlying127
  a41 := Tryd.isAgg127
  z41 := Tryd.sizeOf127
  v41 := Tryd.zeroValue127
  i41 := by kernel_rfl
  t44 := Tryd.underlying219
  a44 := Tryd.isAgg219
  z44 := Tryd.sizeOf219
  v44 := Tryd.zeroValue219
  i44 := by kernel_rfl
  t49 := Tryd.underlying235
  a49 := Tryd.isAgg235
  z49 := Tryd.sizeOf235
  v49 := Tryd.zeroValue235
  i49 := by kernel_rfl
  t51 := Tryd.underlying171
  a51 := Tryd.isAgg171
  z51 := Tryd.sizeOf171
  v51 := Tryd.zeroValue171
  i51 := by kernel_rfl
  t53 := Tryd.underlying241
  a53 := Tryd.isAgg241
  z53 := Tryd.sizeOf241
  v53 := Tryd.zeroValue241
  i53 := by kernel_rfl
  t54 := Tryd.underlying242
  a54 := Tryd.isAgg242
  z54 := Tryd.sizeOf242
  v54 := Tryd.zeroValue242
  i54 := by kernel_rfl
  t58 := Tryd.underlying133
  a58 := Tryd.isAgg133
  z58 := Tryd.sizeOf133
  v58 := Tryd.zeroValue133
  i58 := by kernel_rfl
  t60 := Tryd.underlying264
  a60 := Tryd.isAgg264
  z60 := Tryd.sizeOf264
  v60 := Tryd.zeroValue264
  i60 := by kernel_rfl
  t64 := Tryd.underlying262
  a64 := Tryd.isAgg262
  z64 := Tryd.sizeOf262
  v64 := Tryd.zeroValue262
  i64 := by kernel_rfl
  t66 := Tryd.underlying277
  a66 := Tryd.isAgg277
  z66 := Tryd.sizeOf277
  v66 := Tryd.zeroValue277
  i66 := by kernel_rfl
  t67 := Tryd.underlying275
  a67 := Tryd.isAgg275
  z67 := Tryd.sizeOf275
  v67 := Tryd.zeroValue275
  i67 := by kernel_rfl
  t75 := Tryd.underlying285
  a75 := Tryd.isAgg285
  z75 := Tryd.sizeOf285
  v75 := Tryd.zeroValue285
  i75 := by kernel_rfl
  t76 := Tryd.underlying286
  a76 := Tryd.isAgg286
  z76 := Tryd.sizeOf286
  v76 := Tryd.zeroValue286
  i76 := by kernel_rfl
  t77 := Tryd.underlying287
  a77 := Tryd.isAgg287
  z77 := Tryd.sizeOf287
  v77 := Tryd.zeroValue287
  i77 := by kernel_rfl
  t78 := Tryd.underlying224
  a78 := Tryd.isAgg224
  z78 := Tryd.sizeOf224
  v78 := Tryd.zeroValue224
  i78 := by kernel_rfl
  t79 := Tryd.underlying288
  a79 := Tryd.isAgg288
  z79 := Tryd.sizeOf288
  v79 := Tryd.zeroValue288
  i79 := by kernel_rfl
  t80 := Tryd.underlying289
  a80 := Tryd.isAgg289
  z80 := Tryd.sizeOf289
  v80 := Tryd.zeroValue289
  i80 := by kernel_rfl
  t82 := Tryd.underlying291
  a82 := Tryd.isAgg291
  z82 := Tryd.sizeOf291
  v82 := Tryd.zeroValue291
  i82 := by kernel_rfl }
def lays194_ren : Go.Shelf.Ren := ⟨fun | 194 => 105 | n => n, fun | 31 => 26 | 9 => 9 | 3 => 3 | 4 => 4 | 0 => 0 | n => n, fun | n => n⟩
theorem lays194 : Go.Proofs.Lays.n194 Tryd.prog lays194_ren := {
  mixed := by kernel_rfl
  f194 := Tryd.func105.trans (congrArg some (by kernel_rfl))
  t0 := Tryd.underlying0
  a0 := Tryd.isAgg0
  z0 := Tryd.sizeOf0
  v0 := Tryd.zeroValue0
  t3 := Tryd.underlying3
  a3 := Tryd.isAgg3
  z3 := Tryd.sizeOf3
  v3 := Tryd.zeroValue3
  t4 := Tryd.underlying4
  a4 := Tryd.isAgg4
  z4 := Tryd.sizeOf4
  v4 := Tryd.zeroValue4
  t9 := Tryd.underlying9
  a9 := Tryd.isAgg9
  z9 := Tryd.sizeOf9
  v9 := Tryd.zeroValue9
  t31 := Tryd.underlying26
  a31 := Tryd.isAgg26
  z31 := Tryd.sizeOf26
  v31 := Tryd.zeroValue26 }
end Go.Proofs.YtomgeolmfpijoaaDoor
