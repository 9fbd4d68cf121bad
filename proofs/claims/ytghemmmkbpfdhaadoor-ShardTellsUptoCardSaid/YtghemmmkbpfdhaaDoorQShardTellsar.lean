/- Contracts and lemmas for the proof of ShardTells; each theorem states its own conditions. -/
import Derived.Test.YtghemmmkbpfdhaaDoorQShardTellsac
import Derived.Test.YtghemmmkbpfdhaaDoorQShardTellsaq
import Derived.Deep.QuietTactic
import Derived.BigQuiet
set_option linter.unusedVariables false
set_option linter.unusedSimpArgs false
/- Contracts and lemmas for the proofs of this seat; each theorem states its own conditions. -/
namespace Go.Proofs.YtghemmmkbpfdhaaDoor
open Go.RowKit
theorem value_any (n : Int) (w : World) : Calls Tryd.prog 112 #[.int .i64 n] w fun e w' => e = .returned (.bool (valB n)) ∧ w = w' := by
  by_cases h1 : -1000000000 ≤ n
  · by_cases h2 : n ≤ 1000000000
    · have HV := hid (show valB n = true by simp [valB, h1, h2])
      go_enter Tryd.func112, Tryd.ntmps112
      go_wp2
      go_ret
      exact ⟨rB HV.out.symm, rfl⟩
    · have HV := hid (show valB n = false by simp [valB, h2])
      have h2' : 1000000000 < n := by omega
      go_enter Tryd.func112, Tryd.ntmps112
      go_wp2
      go_ret
      exact ⟨rB HV.out.symm, rfl⟩
  · have HV := hid (show valB n = false by simp [valB, h1])
    have h1' : n < -1000000000 := by omega
    go_enter Tryd.func112, Tryd.ntmps112
    go_wp2
    go_ret
    exact ⟨rB HV.out.symm, rfl⟩
theorem seg_pair {w : World} {b off : Nat} {l : Prs} (hc : ∀ j u, (cP l)[j]? = some u → w.cell? ⟨b, off + j, none⟩ = some u) {k : Nat} (hk : k < l.length) :
    w.cell? ⟨b, off + k * 2, none⟩ = some (.string l[k].1) ∧ w.cell? ⟨b, off + k * 2 + 1, none⟩ = some (.int .i64 l[k].2) :=
  ⟨hc _ _ (cP_at0 l k hk), by rw [Nat.add_assoc]; exact hc _ _ (cP_at1 l k hk)⟩
theorem pairErr_key {l : Prs} {k : Nat} (hk : k < l.length) (h : keyB l[k].1 = false) : pairErr l k = 3 := by rw [pairErr_at hk, if_pos h]
theorem pairErr_val {l : Prs} {k : Nat} (hk : k < l.length) (h : keyB l[k].1 = true) (h2 : valB l[k].2 = false ∨ l[k].2 = 0) : pairErr l k = 1 := by rw [pairErr_at hk, if_neg (by simp [h]), if_pos h2]
theorem pairErr_ord {l : Prs} {k : Nat} (hk : k < l.length) (h : keyB l[k].1 = true) (h2 : valB l[k].2 = true) (h3 : l[k].2 ≠ 0) (h4 : 0 < k) (h5 : blt (l[k - 1]'(by omega)).1 l[k].1 = false) : pairErr l k = 3 := by
  rw [pairErr_at hk, if_neg (by simp [h]), if_neg (by simp [h2, h3]), if_pos ⟨h4, h5⟩]
theorem pairErr_no {l : Prs} {k : Nat} (hk : k < l.length) (h : keyB l[k].1 = true) (h2 : valB l[k].2 = true) (h3 : l[k].2 ≠ 0) (h5 : 0 < k → blt (l[k - 1]'(by omega)).1 l[k].1 = true) : pairErr l k = 0 := by
  rw [pairErr_at hk, if_neg (by simp [h]), if_neg (by simp [h2, h3]), if_neg]
  rintro ⟨h6, h7⟩; rw [h5 h6] at h7; cases h7
theorem zeroTo_succ {f : Nat → Int} {k : Nat} (h : ∀ j, j < k → f j = 0) (hk : f k = 0) : ∀ j, j < k + 1 → f j = 0 := by
  intro j hj
  rcases Nat.lt_succ_iff_lt_or_eq.1 hj with h' | h'
  · exact h j h'
  · subst h'; exact hk
def zeroTo (f : Nat → Int) (k : Nat) : Prop := ∀ j, j < k → f j = 0
set_option maxRecDepth 10000 in
set_option maxHeartbeats 1000000 in
theorem scheck_any (v : Value) (l : Prs) (w : World) (hv : Seg w v 2 l.length (cP l)) (hk : ∀ p ∈ l, p.1.size ≤ 9223372036854775807) :
    Calls Tryd.prog 76 #[v] w fun e w' => e = .returned (.int .i64 (storeErr l)) ∧ Ext w w' := by
  obtain ⟨h0, a, cap, rfl, h1, h2, h3⟩ := hv
  unfold maxLen at h2
  go_enter Tryd.func76, Tryd.ntmps76
  go_wp2
  go_loopw [2, 3, 4, 7] (fun r _ _ i wr => ∃ k : Nat, k ≤ l.length ∧ i = .int .i64 k ∧ r = .int .i64 0 ∧ zeroTo (pairErr l) k ∧ Ext w wr) (fun _ _ _ i _ => l.length - (intOf i).toNat)
  case atStart => exact ⟨0, Nat.zero_le _, rfl, rfl, fun j h => absurd h (by omega), Ext.refl _⟩
  case round =>
    obtain ⟨k, hkl, rfl, rfl, hall, E⟩ := hrel
    by_cases hlt : k < l.length
    · obtain ⟨b, off, rfl, hc⟩ := h3 (by omega)
      have c := seg_pair hc hlt
      have c0 := E.cell c.1
      have c1 := E.cell c.2
      have hsz := hk l[k] (List.getElem_mem hlt)
      have bx := heap_alloc_new wr (.cells #[.string l[k].1, .int .i64 l[k].2] 77)
      have xx := blk2 bx
      have EA := (Ext.refl wr).alloc (.cells #[.string l[k].1, .int .i64 l[k].2] 77)
      cases hkey : keyB l[k].1 with
      | false =>
        have HF := hid (firstE_at hall (show pairErr l k ≠ 0 by rw [pairErr_key hlt hkey]; omega) hlt)
        have HG := hid (pairErr_key hlt hkey)
        clear hall hc h3
        go_wp2_with fail
        refine (key_any _ _ hsz).mono ?_
        rintro e w' ⟨rfl, rfl⟩
        go_wp2
        go_ret
        exact ⟨rI (by unfold storeErr; rw [HF.out, HG.out]), E.trans EA⟩
      | true =>
        cases hvb : valB l[k].2 with
        | false =>
          have HF := hid (firstE_at hall (show pairErr l k ≠ 0 by rw [pairErr_val hlt hkey (.inl hvb)]; omega) hlt)
          have HG := hid (pairErr_val hlt hkey (.inl hvb))
          clear hall hc h3
          go_wp2_with fail
          refine (key_any _ _ hsz).mono ?_
          rintro e w' ⟨rfl, rfl⟩
          go_wp2_with fail
          refine (value_any _ _).mono ?_
          rintro e w' ⟨rfl, rfl⟩
          go_wp2
          go_ret
          exact ⟨rI (by unfold storeErr; rw [HF.out, HG.out]), E.trans EA⟩
        | true =>
          by_cases hz : l[k].2 = 0
          · have hz' : (l[k].2 == 0) = true := by simp [hz]
            have HF := hid (firstE_at hall (show pairErr l k ≠ 0 by rw [pairErr_val hlt hkey (.inr hz)]; omega) hlt)
            have HG := hid (pairErr_val hlt hkey (.inr hz))
            clear hall hc h3 hz
            go_wp2_with fail
            refine (key_any _ _ hsz).mono ?_
            rintro e w' ⟨rfl, rfl⟩
            go_wp2_with fail
            refine (value_any _ _).mono ?_
            rintro e w' ⟨rfl, rfl⟩
            go_wp2
            go_ret
            exact ⟨rI (by unfold storeErr; rw [HF.out, HG.out]), E.trans EA⟩
          · have hz' : (l[k].2 == 0) = false := by simp [hz]
            have HZ := hid hz
            clear hz
            cases k with
            | zero =>
              have hs := zeroTo_succ hall (pairErr_no hlt hkey hvb HZ.out (fun h => absurd h (by omega)))
              have HS := hid hs
              simp only [Nat.zero_mul, Nat.add_zero] at c0 c1
              clear hall hs hc h3
              go_wp2_with fail
              refine (key_any _ _ hsz).mono ?_
              rintro e w' ⟨rfl, rfl⟩
              go_wp2_with fail
              refine (value_any _ _).mono ?_
              rintro e w' ⟨rfl, rfl⟩
              go_wp2_with fail
              go_quiet (fail)
              go_wp2
              go_roundw
              case rel => exact ⟨1, by omega, by go_num, rfl, HS.out, (E.trans EA).drewN _⟩
              case measure => simp [intOf]; omega
            | succ k =>
              have d0 := EA.cell (E.cell (seg_pair hc (show k < l.length by omega)).1)
              cases hb : blt (l[k]'(by omega)).1 l[k + 1].1 with
              | false =>
                have hb' : Op.bytesLess (l[k]'(by omega)).1.toList l[k + 1].1.toList = false := hb
                have HG := hid (pairErr_ord hlt hkey hvb HZ.out (by omega) hb)
                have HF := hid (firstE_at hall (show pairErr l (k + 1) ≠ 0 by rw [HG.out]; omega) hlt)
                clear hall hc h3
                go_wp2_with fail
                refine (key_any _ _ hsz).mono ?_
                rintro e w' ⟨rfl, rfl⟩
                go_wp2_with fail
                refine (value_any _ _).mono ?_
                rintro e w' ⟨rfl, rfl⟩
                go_wp2_with fail
                go_quiet (fail)
                go_wp2
                go_ret
                exact ⟨rI (by unfold storeErr; rw [HF.out, HG.out]), by (repeat (first | (with_reducible assumption) | (with_reducible exact Ext.refl _) | (with_reducible refine Ext.drew ?_) | (with_reducible refine Ext.drewN ?_ _) | (with_reducible refine Ext.alloc ?_ _) | (with_reducible refine Ext.trans ?_ (by with_reducible assumption))))⟩
              | true =>
                have hb' : Op.bytesLess (l[k]'(by omega)).1.toList l[k + 1].1.toList = true := hb
                have HS := hid (zeroTo_succ hall (pairErr_no hlt hkey hvb HZ.out (fun _ => hb)))
                clear hall hc h3
                go_wp2_with fail
                refine (key_any _ _ hsz).mono ?_
                rintro e w' ⟨rfl, rfl⟩
                go_wp2_with fail
                refine (value_any _ _).mono ?_
                rintro e w' ⟨rfl, rfl⟩
                go_wp2_with fail
                go_quiet (fail)
                go_wp2
                go_roundw
                case rel => exact ⟨k + 1 + 1, by omega, by go_num, rfl, HS.out, (E.trans EA).drewN _⟩
                case measure => simp [intOf]; omega
    · go_wp2
      go_ret
      obtain rfl : k = l.length := by omega
      exact ⟨rI (firstE_zero hall).symm, E⟩
end Go.Proofs.YtghemmmkbpfdhaaDoor
