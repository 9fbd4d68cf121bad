/- Contracts and lemmas for the proof of TextLines; each theorem states its own conditions. -/
import Derived.Test.YtnepdfpooobmcaaGreatDoorQTextLinesah
import Derived.Lib.IndexAny
import Derived.Lib.OthersKept
set_option linter.unusedVariables false
set_option linter.unusedSimpArgs false
/- Contracts and lemmas for the proofs of this seat; each theorem states its own conditions. -/
namespace Go.Proofs.YtnepdfpooobmcaaGreatDoor
open Go.RowKit Go.Lib
/-- how a rune that begins with no ASCII byte is read -/
def contB (s : ByteArray) (pos k : Nat) : Prop := pos + k < s.size ∧ (s.get! (pos + k)).toNat / 64 = 2
theorem valid_low {c : Nat} (h : c < 55296) : Utf8.valid (c : Int) = true := by
  have h1 : (0 : Int) ≤ c := by omega
  have h2 : (c : Int) < 55296 := by omega
  simp only [Utf8.valid, Bool.or_eq_true, Bool.and_eq_true, decide_eq_true_eq]
  exact .inl ⟨h1, h2⟩
def DecP (s : ByteArray) (pos : Nat) (D : Nat × Nat) : Prop := Utf8.valid (D.1 : Int) = true ∧
    (D.2 = 1 ∨ (D.2 = 2 ∧ contB s pos 1) ∨ (D.2 = 3 ∧ contB s pos 1 ∧ contB s pos 2) ∨ (D.2 = 4 ∧ contB s pos 1 ∧ contB s pos 2 ∧ contB s pos 3))
set_option maxRecDepth 100000 in
theorem dec_cases (s : ByteArray) (pos : Nat) (ha : 128 ≤ (s.get! (pos + 0)).toNat) : DecP s pos (Utf8.decode s pos) := by
  have hE : Utf8.valid ((65533 : Nat) : Int) = true := by decide
  have hC : ∀ k, (decide (pos + k < s.size) && (s.get! (pos + k)).toNat / 64 == 2) = true → contB s pos k := fun k h => by
    simp only [Bool.and_eq_true, decide_eq_true_eq, beq_iff_eq] at h
    exact h
  have h0 : (s.get! (pos + 0)).toNat < 256 := (s.get! (pos + 0)).toNat_lt
  have h1 : (s.get! (pos + 1)).toNat < 256 := (s.get! (pos + 1)).toNat_lt
  obtain ⟨D, hD⟩ : ∃ D, Utf8.decode s pos = D := ⟨_, rfl⟩
  rw [hD]
  unfold Utf8.decode at hD
  dsimp only at hD
  rw [if_neg (show ¬ (s.get! (pos + 0)).toNat < 128 by omega)] at hD
  split at hD
  · rename_i q
    rw [Bool.and_eq_true] at q
    have q0 : (s.get! (pos + 0)).toNat / 32 = 6 := by simpa using q.1
    split at hD
    · subst hD; exact ⟨valid_low (by dsimp only; omega), .inr (.inl ⟨rfl, hC 1 q.2⟩)⟩
    · subst hD; exact ⟨hE, .inl rfl⟩
  · split at hD
    · rename_i q
      rw [Bool.and_eq_true, Bool.and_eq_true] at q
      split at hD
      · rename_i q2
        rw [Bool.and_eq_true] at q2
        subst hD; exact ⟨q2.2, .inr (.inr (.inl ⟨rfl, hC 1 q.1.2, hC 2 q.2⟩))⟩
      · subst hD; exact ⟨hE, .inl rfl⟩
    · split at hD
      · rename_i q
        rw [Bool.and_eq_true, Bool.and_eq_true, Bool.and_eq_true] at q
        split at hD
        · rename_i q2
          rw [Bool.and_eq_true] at q2
          subst hD; exact ⟨q2.2, .inr (.inr (.inr ⟨rfl, hC 1 q.1.1.2, hC 2 q.1.2, hC 3 q.2⟩))⟩
        · subst hD; exact ⟨hE, .inl rfl⟩
      · subst hD; exact ⟨hE, .inl rfl⟩
theorem get_list (s : ByteArray) {j : Nat} {b : UInt8} (h : s.data.toList[j]? = some b) : s.get! j = b := by
  have hj : j < s.data.toList.length := by
    rcases Nat.lt_or_ge j s.data.toList.length with q | q
    · exact q
    · rw [List.getElem?_eq_none q] at h; cases h
  rw [List.getElem?_eq_getElem hj] at h
  have hs : j < s.size := by simpa [← ByteArray.size_data] using hj
  have := get_at s j hs
  rw [Nat.add_zero] at this
  rw [this]
  exact Option.some.inj h
theorem decode_skip (s : ByteArray) (pos : Nat) (h : pos < s.size) (ha : 128 ≤ (s[pos]'h).toNat) : Utf8.valid (Utf8.decode s pos).1 = true ∧ pos + (Utf8.decode s pos).2 ≤ s.size ∧ ∀ j, pos ≤ j → j < pos + (Utf8.decode s pos).2 → ∀ b, s.data.toList[j]? = some b → 128 ≤ b.toNat := by
  have hg := get_at s pos h
  obtain ⟨d1, d2⟩ := dec_cases s pos (by rw [hg]; exact ha)
  have hc : ∀ {k j b}, contB s pos k → j = pos + k → s.data.toList[j]? = some b → 128 ≤ b.toNat := fun hk hj hb => by
    rw [← get_list s hb, hj]
    have := hk.2
    omega
  have h0 : ∀ {j b}, j = pos → s.data.toList[j]? = some b → 128 ≤ b.toNat := fun hj hb => by
    rw [← get_list s hb, hj]
    rw [Nat.add_zero] at hg
    rw [hg]; exact ha
  refine ⟨d1, ?_, fun j h1 h2 b hb => ?_⟩
  · rcases d2 with e | ⟨e, c1⟩ | ⟨e, c1, c2⟩ | ⟨e, c1, c2, c3⟩ <;> rw [e]
    · omega
    · exact c1.1
    · exact c2.1
    · exact c3.1
  · rcases d2 with e | ⟨e, c1⟩ | ⟨e, c1, c2⟩ | ⟨e, c1, c2, c3⟩ <;> rw [e] at h2
    · exact h0 (by omega) hb
    · rcases (show j = pos ∨ j = pos + 1 by omega) with q | q
      · exact h0 q hb
      · exact hc c1 q hb
    · rcases (show j = pos ∨ j = pos + 1 ∨ j = pos + 2 by omega) with q | q | q
      · exact h0 q hb
      · exact hc c1 q hb
      · exact hc c2 q hb
    · rcases (show j = pos ∨ j = pos + 1 ∨ j = pos + 2 ∨ j = pos + 3 by omega) with q | q | q | q
      · exact h0 q hb
      · exact hc c1 q hb
      · exact hc c2 q hb
      · exact hc c3 q hb
theorem iterAt_ext {w wx : World} (E : Ext w wx) {k : Nat} (hk : w.heap.size ≤ k) (s : ByteArray) (p : Nat) : Ext w (wx.iterAt k s p) := by
  refine ⟨E.os, E.tape, E.output, by simp [World.iterAt]; exact E.size', fun i hi => ?_⟩
  simp only [World.iterAt]
  rw [Array.getElem?_setIfInBounds_ne (by omega)]
  exact E.block i hi
theorem chars_at (b : UInt8) (h : 128 ≤ b.toNat) : ([61, 43, 60, 63] : List UInt8).contains b = false := by
  simp only [List.contains_eq_any_beq, List.any_cons, List.any_nil, Bool.or_false, Bool.or_eq_false_iff, beq_eq_false_iff_ne]
  refine ⟨?_, ?_, ?_, ?_⟩ <;> intro e <;> rw [e] at h <;> revert h <;> decide
set_option maxHeartbeats 2000000 in
set_option maxRecDepth 100000 in
theorem ixShort (s : ByteArray) (w : World) (h8 : s.size ≤ 8) : Calls Tryz.prog 154 #[.string s, .string ⟨#[61, 43, 60, 63]⟩] w fun e w' => e = .returned (.int .i64 (Lib.indexAny s.data.toList [61, 43, 60, 63])) ∧ Ext w w' := by
  have h8z : decide ((8 : Int) < (s.size : Int)) = false := decide_eq_false (by omega)
  have e226 : ∀ (w : World), Calls Tryz.prog 194 #[.int .i64 s.size] w fun e w' => e = .returned (.bool false) ∧ w' = w := fun w => by
    go_enter Tryz.func194, Tryz.ntmps194
    go_wp2
    go_ret
    exact ⟨rfl, rfl⟩
  have HS := hid e226
  clear e226 h8z
  go_enter Tryz.func154, Tryz.ntmps154
  go_wp2_with fail
  refine (HS.out w).mono ?_
  clear HS
  rintro e w1 ⟨rfl, rfl⟩
  obtain ⟨w, rfl⟩ : ∃ w0 : World, w0 = w1 := ⟨_, rfl⟩
  go_wp2_with fail
  go_loopg [9, 10] s.size (fun g _ _ wx => ∃ i : Nat, i ≤ s.size ∧ s.size - i ≤ g ∧ wx.heap[w.heap.size]? = some (.stringIter s i) ∧ Hid (Ext w wx) ∧ Lib.NoAny s.data.toList [61, 43, 60, 63] i)
  case atStart => exact ⟨0, Nat.zero_le _, by omega, World.iter_heap _ _ _, hid (iter_ext _ _ _), Lib.NoAny.zero _ _⟩
  case round =>
    obtain ⟨wx, rfl⟩ : ∃ w0 : World, w0 = wr := ⟨_, rfl⟩
    obtain ⟨i, hi, hig, hkw, hEw, hno⟩ := hrel
    have HN := hid hno
    clear hno
    by_cases hlt : i < s.size
    · obtain ⟨x, hx⟩ : ∃ x : UInt8, s[i]'hlt = x := ⟨_, rfl⟩
      have hxl : s.data.toList[i]? = some x := by rw [← hx]; exact Lib.data_getElem? s i hlt
      by_cases hx128 : x.toNat < 128
      · have hnx := fun ty => run_next_ascii_at (P := Tryz.prog) wx w.heap.size s i ty hkw hlt (by rw [hx]; exact hx128)
        have hk2 := iterAt_heap wx w.heap.size s i (i + 1) hkw
        have hE2 := hid (iterAt_ext hEw.out (Nat.le_refl _) s (i + 1))
        rw [hx] at hnx
        have Hx := hid hxl
        have RA := Any.strings_IndexRune_ascii lays152 ⟨#[61, 43, 60, 63]⟩ (x.toNat : Int) (wx.iterAt w.heap.size s (i + 1)) (by omega) (by omega)
        generalize wx.iterAt w.heap.size s (i + 1) = w2 at hnx hk2 hE2 RA
        have hcon := Lib.contains_iff_indexByte [61, 43, 60, 63] x
        rw [show ((x.toNat : Int)).toNat.toUInt8 = x by simp] at RA
        rw [show (⟨#[61, 43, 60, 63]⟩ : ByteArray).data.toList = [61, 43, 60, 63] from rfl] at RA
        clear hxl hx
        cases hin : ([61, 43, 60, 63] : List UInt8).contains x
        · rw [hin] at hcon
          have hlt2 : ¬ ((0 : Int) ≤ Lib.indexByte [61, 43, 60, 63] x) := of_decide_eq_false hcon.symm
          have HIN := hid hin
          generalize Lib.indexByte [61, 43, 60, 63] x = ib at RA hlt2
          have RA := hid RA
          clear hcon hin
          go_wp2_with fail
          refine (RA.out).mono ?_
          rintro e w5 ⟨rfl, rfl⟩
          go_wp2_with fail
          go_roundg (gk - 1)
          case measure => omega
          case rel => exact ⟨i + 1, by omega, by omega, hk2, hE2, HN.out.succ Hx.out HIN.out⟩
        · rw [hin] at hcon
          have hge : (0 : Int) ≤ Lib.indexByte [61, 43, 60, 63] x := of_decide_eq_true hcon.symm
          have HR := hid (Lib.indexAny_hit HN.out Hx.out hin)
          generalize Lib.indexByte [61, 43, 60, 63] x = ib at RA hge
          have RA := hid RA
          clear hcon hin
          go_wp2_with fail
          refine (RA.out).mono ?_
          rintro e w5 ⟨rfl, rfl⟩
          go_wp2
          go_ret
          exact ⟨by rw [HR.out]; rfl, hE2.out⟩
      · have hh : 128 ≤ (s[i]'hlt).toNat := by rw [hx]; omega
        have hnx := fun ty => run_next_any_at (P := Tryz.prog) wx w.heap.size s i ty hkw hlt
        have hk2 := iterAt_heap wx w.heap.size s i (i + (Utf8.decode s i).2) hkw
        have hE2 := hid (iterAt_ext hEw.out (Nat.le_refl _) s (i + (Utf8.decode s i).2))
        obtain ⟨d1, d2, d3⟩ := decode_skip s i hlt hh
        have d4 := (decode_high s i hlt hh)
        have RN := ruN (Utf8.decode s i).1 (wx.iterAt w.heap.size s (i + (Utf8.decode s i).2)) d4.1 d1
        generalize wx.iterAt w.heap.size s (i + (Utf8.decode s i).2) = w2 at hnx hk2 hE2 RN
        have HD := hid (And.intro d2 (And.intro d3 d4.2))
        generalize (Utf8.decode s i).1 = r at RN hnx
        generalize (Utf8.decode s i).2 = k at hk2 HD
        have RN := hid RN
        clear d1 d2 d3 d4 hh hx hxl hx128
        go_wp2_with fail
        refine (RN.out).mono ?_
        clear RN
        rintro e w5 ⟨rfl, E5⟩
        have hk5 := E5.heap hk2
        have hE5 := hid (hE2.out.trans E5)
        have hki := HD.out.1
        have hk1 := HD.out.2.2
        have hNo : Lib.NoAny s.data.toList [61, 43, 60, 63] (i + k) := by
          intro j b hj hb
          rcases Nat.lt_or_ge j i with q | q
          · exact HN.out j b q hb
          · exact chars_at b (HD.out.2.1 j q hj b hb)
        have hNo := hid hNo
        clear E5 hk2 hE2 HD
        go_wp2_with fail
        go_roundg (gk - 1)
        case measure => omega
        case rel => exact ⟨i + k, by omega, by omega, hk5, hE5, hNo.out⟩
    · obtain rfl : i = s.size := by omega
      have hnx := fun ty => run_next_end_at (P := Tryz.prog) wx w.heap.size s s.size ty hkw (by omega)
      have HR := hid (Lib.indexAny_none (by rw [← Lib.size_eq]; exact HN.out))
      go_wp2
      go_ret
      exact ⟨by rw [HR.out]; rfl, hEw.out⟩
end Go.Proofs.YtnepdfpooobmcaaGreatDoor
