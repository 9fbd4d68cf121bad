/- Contracts and lemmas for the proof of TopLog; each theorem states its own conditions. -/
import Derived.Test.YtddghaoejnbkaaaGreatDoorQTopLogad
import Derived.Lib.IndexAny
import Derived.Lib.OthersKept
import Derived.Shelf.Strconv.Itoa3
import Derived.Shelf.Strconv.AtoiAll
import Derived.Shelf.Strings.Split
import Derived.Test.YtddghaoejnbkaaaGreatDoorProg
import Derived.Test.YtddghaoejnbkaaaGreatDoorQTopLogaa
import Derived.Lib.AtoiAll
import Derived.Lib.ItoaLen
import Derived.Lib.SplitLaws
set_option linter.unusedVariables false
set_option linter.unusedSimpArgs false
/- Contracts and lemmas for the proofs of this seat; each theorem states its own conditions. -/
namespace Go.Proofs.YtddghaoejnbkaaaGreatDoor
open Go.RowKit Go.Lib
/-- how a rune that begins with no ASCII byte is read -/
def contB (s : ByteArray) (pos k : Nat) : Prop := pos + k < s.size ∧ (s.get! (pos + k)).toNat / 64 = 2
theorem valid_low {c : Nat} (h : c < 55296) : Utf8.valid (c : Int) = true := by
  have h1 : (0 : Int) ≤ c := by omega
  have h2 : (c : Int) < 55296 := by omega
  simp only [Utf8.valid, Bool.or_eq_true, Bool.and_eq_true, decide_eq_true_eq]
  exact .inl ⟨h1, h2⟩
def DecP (s : ByteArray) (pos : Nat) (D : Nat × Nat) : Prop := Utf8.valid (D.1 : Int) = true ∧
    (D.2 = 1 ∨ (D.2 = 2 ∧ contB s pos 1) ∨ (D.2 = 3 ∧ contB s pos 1 ∧ contB s pos 2) ∨ (D.2 = 4 ∧ contB s pos 1 ∧ contB s pos 2 ∧ contB s pos 3))
set_option maxRecDepth 100000 in
theorem dec_cases (s : ByteArray) (pos : Nat) (ha : 128 ≤ (s.get! (pos + 0)).toNat) : DecP s pos (Utf8.decode s pos) := by
  have hE : Utf8.valid ((65533 : Nat) : Int) = true := by decide
  have hC : ∀ k, (decide (pos + k < s.size) && (s.get! (pos + k)).toNat / 64 == 2) = true → contB s pos k := fun k h => by
    simp only [Bool.and_eq_true, decide_eq_true_eq, beq_iff_eq] at h
    exact h
  have h0 : (s.get! (pos + 0)).toNat < 256 := (s.get! (pos + 0)).toNat_lt
  have h1 : (s.get! (pos + 1)).toNat < 256 := (s.get! (pos + 1)).toNat_lt
  obtain ⟨D, hD⟩ : ∃ D, Utf8.decode s pos = D := ⟨_, rfl⟩
  rw [hD]
  unfold Utf8.decode at hD
  dsimp only at hD
  rw [if_neg (show ¬ (s.get! (pos + 0)).toNat < 128 by omega)] at hD
  split at hD
  · rename_i q
    rw [Bool.and_eq_true] at q
    have q0 : (s.get! (pos + 0)).toNat / 32 = 6 := by simpa using q.1
    split at hD
    · subst hD; exact ⟨valid_low (by dsimp only; omega), .inr (.inl ⟨rfl, hC 1 q.2⟩)⟩
    · subst hD; exact ⟨hE, .inl rfl⟩
  · split at hD
    · rename_i q
      rw [Bool.and_eq_true, Bool.and_eq_true] at q
      split at hD
      · rename_i q2
        rw [Bool.and_eq_true] at q2
        subst hD; exact ⟨q2.2, .inr (.inr (.inl ⟨rfl, hC 1 q.1.2, hC 2 q.2⟩))⟩
      · subst hD; exact ⟨hE, .inl rfl⟩
    · split at hD
      · rename_i q
        rw [Bool.and_eq_true, Bool.and_eq_true, Bool.and_eq_true] at q
        split at hD
        · rename_i q2
          rw [Bool.and_eq_true] at q2
          subst hD; exact ⟨q2.2, .inr (.inr (.inr ⟨rfl, hC 1 q.1.1.2, hC 2 q.1.2, hC 3 q.2⟩))⟩
        · subst hD; exact ⟨hE, .inl rfl⟩
      · subst hD; exact ⟨hE, .inl rfl⟩
theorem get_list (s : ByteArray) {j : Nat} {b : UInt8} (h : s.data.toList[j]? = some b) : s.get! j = b := by
  have hj : j < s.data.toList.length := by
    rcases Nat.lt_or_ge j s.data.toList.length with q | q
    · exact q
    · rw [List.getElem?_eq_none q] at h; cases h
  rw [List.getElem?_eq_getElem hj] at h
  have hs : j < s.size := by simpa [← ByteArray.size_data] using hj
  have := get_at s j hs
  rw [Nat.add_zero] at this
  rw [this]
  exact Option.some.inj h
theorem decode_skip (s : ByteArray) (pos : Nat) (h : pos < s.size) (ha : 128 ≤ (s[pos]'h).toNat) : Utf8.valid (Utf8.decode s pos).1 = true ∧ pos + (Utf8.decode s pos).2 ≤ s.size ∧ ∀ j, pos ≤ j → j < pos + (Utf8.decode s pos).2 → ∀ b, s.data.toList[j]? = some b → 128 ≤ b.toNat := by
  have hg := get_at s pos h
  obtain ⟨d1, d2⟩ := dec_cases s pos (by rw [hg]; exact ha)
  have hc : ∀ {k j b}, contB s pos k → j = pos + k → s.data.toList[j]? = some b → 128 ≤ b.toNat := fun hk hj hb => by
    rw [← get_list s hb, hj]
    have := hk.2
    omega
  have h0 : ∀ {j b}, j = pos → s.data.toList[j]? = some b → 128 ≤ b.toNat := fun hj hb => by
    rw [← get_list s hb, hj]
    rw [Nat.add_zero] at hg
    rw [hg]; exact ha
  refine ⟨d1, ?_, fun j h1 h2 b hb => ?_⟩
  · rcases d2 with e | ⟨e, c1⟩ | ⟨e, c1, c2⟩ | ⟨e, c1, c2, c3⟩ <;> rw [e]
    · omega
    · exact c1.1
    · exact c2.1
    · exact c3.1
  · rcases d2 with e | ⟨e, c1⟩ | ⟨e, c1, c2⟩ | ⟨e, c1, c2, c3⟩ <;> rw [e] at h2
    · exact h0 (by omega) hb
    · rcases (show j = pos ∨ j = pos + 1 by omega) with q | q
      · exact h0 q hb
      · exact hc c1 q hb
    · rcases (show j = pos ∨ j = pos + 1 ∨ j = pos + 2 by omega) with q | q | q
      · exact h0 q hb
      · exact hc c1 q hb
      · exact hc c2 q hb
    · rcases (show j = pos ∨ j = pos + 1 ∨ j = pos + 2 ∨ j = pos + 3 by omega) with q | q | q | q
      · exact h0 q hb
      · exact hc c1 q hb
      · exact hc c2 q hb
      · exact hc c3 q hb
theorem iterAt_ext {w wx : World} (E : Ext w wx) {k : Nat} (hk : w.heap.size ≤ k) (s : ByteArray) (p : Nat) : Ext w (wx.iterAt k s p) := by
  refine ⟨E.os, E.tape, E.output, by simp [World.iterAt]; exact E.size', fun i hi => ?_⟩
  simp only [World.iterAt]
  rw [Array.getElem?_setIfInBounds_ne (by omega)]
  exact E.block i hi
theorem chars_at (b : UInt8) (h : 128 ≤ b.toNat) : ([61, 43, 60, 63] : List UInt8).contains b = false := by
  simp only [List.contains_eq_any_beq, List.any_cons, List.any_nil, Bool.or_false, Bool.or_eq_false_iff, beq_eq_false_iff_ne]
  refine ⟨?_, ?_, ?_, ?_⟩ <;> intro e <;> rw [e] at h <;> revert h <;> decide
set_option maxHeartbeats 2000000 in
set_option maxRecDepth 100000 in
theorem ixShort (s : ByteArray) (w : World) (h8 : s.size ≤ 8) : Calls Tryz.prog 235 #[.string s, .string ⟨#[61, 43, 60, 63]⟩] w fun e w' => e = .returned (.int .i64 (Lib.indexAny s.data.toList [61, 43, 60, 63])) ∧ Ext w w' := by
  have h8z : decide ((8 : Int) < (s.size : Int)) = false := decide_eq_false (by omega)
  have e226 : ∀ (w : World), Calls Tryz.prog 272 #[.int .i64 s.size] w fun e w' => e = .returned (.bool false) ∧ w' = w := fun w => by
    go_enter Tryz.func272, Tryz.ntmps272
    go_wp2
    go_ret
    exact ⟨rfl, rfl⟩
  have HS := hid e226
  clear e226 h8z
  go_enter Tryz.func235, Tryz.ntmps235
  go_wp2_with fail
  refine (HS.out w).mono ?_
  clear HS
  rintro e w1 ⟨rfl, rfl⟩
  obtain ⟨w, rfl⟩ : ∃ w0 : World, w0 = w1 := ⟨_, rfl⟩
  go_wp2_with fail
  go_loopg [9, 10] s.size (fun g _ _ wx => ∃ i : Nat, i ≤ s.size ∧ s.size - i ≤ g ∧ wx.heap[w.heap.size]? = some (.stringIter s i) ∧ Hid (Ext w wx) ∧ Lib.NoAny s.data.toList [61, 43, 60, 63] i)
  case atStart => exact ⟨0, Nat.zero_le _, by omega, World.iter_heap _ _ _, hid (iter_ext _ _ _), Lib.NoAny.zero _ _⟩
  case round =>
    obtain ⟨wx, rfl⟩ : ∃ w0 : World, w0 = wr := ⟨_, rfl⟩
    obtain ⟨i, hi, hig, hkw, hEw, hno⟩ := hrel
    have HN := hid hno
    clear hno
    by_cases hlt : i < s.size
    · obtain ⟨x, hx⟩ : ∃ x : UInt8, s[i]'hlt = x := ⟨_, rfl⟩
      have hxl : s.data.toList[i]? = some x := by rw [← hx]; exact Lib.data_getElem? s i hlt
      by_cases hx128 : x.toNat < 128
      · have hnx := fun ty => run_next_ascii_at (P := Tryz.prog) wx w.heap.size s i ty hkw hlt (by rw [hx]; exact hx128)
        have hk2 := iterAt_heap wx w.heap.size s i (i + 1) hkw
        have hE2 := hid (iterAt_ext hEw.out (Nat.le_refl _) s (i + 1))
        rw [hx] at hnx
        have Hx := hid hxl
        have RA := Any.strings_IndexRune_ascii lays152 ⟨#[61, 43, 60, 63]⟩ (x.toNat : Int) (wx.iterAt w.heap.size s (i + 1)) (by omega) (by omega)
        generalize wx.iterAt w.heap.size s (i + 1) = w2 at hnx hk2 hE2 RA
        have hcon := Lib.contains_iff_indexByte [61, 43, 60, 63] x
        rw [show ((x.toNat : Int)).toNat.toUInt8 = x by simp] at RA
        rw [show (⟨#[61, 43, 60, 63]⟩ : ByteArray).data.toList = [61, 43, 60, 63] from rfl] at RA
        clear hxl hx
        cases hin : ([61, 43, 60, 63] : List UInt8).contains x
        · rw [hin] at hcon
          have hlt2 : ¬ ((0 : Int) ≤ Lib.indexByte [61, 43, 60, 63] x) := of_decide_eq_false hcon.symm
          have HIN := hid hin
          generalize Lib.indexByte [61, 43, 60, 63] x = ib at RA hlt2
          have RA := hid RA
          clear hcon hin
          go_wp2_with fail
          refine (RA.out).mono ?_
          rintro e w5 ⟨rfl, rfl⟩
          go_wp2_with fail
          go_roundg (gk - 1)
          case measure => omega
          case rel => exact ⟨i + 1, by omega, by omega, hk2, hE2, HN.out.succ Hx.out HIN.out⟩
        · rw [hin] at hcon
          have hge : (0 : Int) ≤ Lib.indexByte [61, 43, 60, 63] x := of_decide_eq_true hcon.symm
          have HR := hid (Lib.indexAny_hit HN.out Hx.out hin)
          generalize Lib.indexByte [61, 43, 60, 63] x = ib at RA hge
          have RA := hid RA
          clear hcon hin
          go_wp2_with fail
          refine (RA.out).mono ?_
          rintro e w5 ⟨rfl, rfl⟩
          go_wp2
          go_ret
          exact ⟨by rw [HR.out]; rfl, hE2.out⟩
      · have hh : 128 ≤ (s[i]'hlt).toNat := by rw [hx]; omega
        have hnx := fun ty => run_next_any_at (P := Tryz.prog) wx w.heap.size s i ty hkw hlt
        have hk2 := iterAt_heap wx w.heap.size s i (i + (Utf8.decode s i).2) hkw
        have hE2 := hid (iterAt_ext hEw.out (Nat.le_refl _) s (i + (Utf8.decode s i).2))
        obtain ⟨d1, d2, d3⟩ := decode_skip s i hlt hh
        have d4 := (decode_high s i hlt hh)
        have RN := ruN (Utf8.decode s i).1 (wx.iterAt w.heap.size s (i + (Utf8.decode s i).2)) d4.1 d1
        generalize wx.iterAt w.heap.size s (i + (Utf8.decode s i).2) = w2 at hnx hk2 hE2 RN
        have HD := hid (And.intro d2 (And.intro d3 d4.2))
        generalize (Utf8.decode s i).1 = r at RN hnx
        generalize (Utf8.decode s i).2 = k at hk2 HD
        have RN := hid RN
        clear d1 d2 d3 d4 hh hx hxl hx128
        go_wp2_with fail
        refine (RN.out).mono ?_
        clear RN
        rintro e w5 ⟨rfl, E5⟩
        have hk5 := E5.heap hk2
        have hE5 := hid (hE2.out.trans E5)
        have hki := HD.out.1
        have hk1 := HD.out.2.2
        have hNo : Lib.NoAny s.data.toList [61, 43, 60, 63] (i + k) := by
          intro j b hj hb
          rcases Nat.lt_or_ge j i with q | q
          · exact HN.out j b q hb
          · exact chars_at b (HD.out.2.1 j q hj b hb)
        have hNo := hid hNo
        clear E5 hk2 hE2 HD
        go_wp2_with fail
        go_roundg (gk - 1)
        case measure => omega
        case rel => exact ⟨i + k, by omega, by omega, hk5, hE5, hNo.out⟩
    · obtain rfl : i = s.size := by omega
      have hnx := fun ty => run_next_end_at (P := Tryz.prog) wx w.heap.size s s.size ty hkw (by omega)
      have HR := hid (Lib.indexAny_none (by rw [← Lib.size_eq]; exact HN.out))
      go_wp2
      go_ret
      exact ⟨by rw [HR.out]; rfl, hEw.out⟩
end Go.Proofs.YtddghaoejnbkaaaGreatDoor

/- Contracts and lemmas for the proofs of this seat; each theorem states its own conditions. -/
namespace Go.Proofs.YtddghaoejnbkaaaGreatDoor
open Go.Shelf
def laysM171_ren : Go.Shelf.Ren := ⟨fun | 171 => 94 | 243 => 145 | 246 => 181 | 283 => 239 | 284 => 240 | 285 => 241 | 286 => 242 | 129 => 199 | 317 => 276 | 318 => 277 | 319 => 278 | 320 => 279 | 337 => 301 | 338 => 302 | n => n, fun | 3 => 3 | 9 => 9 | 2 => 2 | 4 => 4 | 171 => 281 | 0 => 0 | 53 => 156 | 37 => 237 | 5 => 5 | 173 => 283 | 212 => 310 | 51 => 254 | 20 => 20 | 213 => 311 | 46 => 162 | 232 => 342 | 233 => 343 | n => n, fun | 17 => 1 | 18 => 6 | 19 => 7 | n => n⟩
theorem laysM171 : Go.Proofs.LaysM.n171 Tryz.prog laysM171_ren := {
  mixed := by kernel_rfl
  f129 := Tryz.func199.trans (congrArg some (by kernel_rfl))
  f171 := Tryz.func94.trans (congrArg some (by kernel_rfl))
  f243 := Tryz.func145.trans (congrArg some (by kernel_rfl))
  f246 := Tryz.func181.trans (congrArg some (by kernel_rfl))
  f283 := Tryz.func239.trans (congrArg some (by kernel_rfl))
  f284 := Tryz.func240.trans (congrArg some (by kernel_rfl))
  f285 := Tryz.func241.trans (congrArg some (by kernel_rfl))
  f286 := Tryz.func242.trans (congrArg some (by kernel_rfl))
  f317 := Tryz.func276.trans (congrArg some (by kernel_rfl))
  f318 := Tryz.func277.trans (congrArg some (by kernel_rfl))
  f319 := Tryz.func278.trans (congrArg some (by kernel_rfl))
  f320 := Tryz.func279.trans (congrArg some (by kernel_rfl))
  f337 := Tryz.func301.trans (congrArg some (by kernel_rfl))
  f338 := Tryz.func302.trans (congrArg some (by kernel_rfl))
  t0 := Tryz.underlying0
  a0 := Tryz.isAgg0
  z0 := Tryz.sizeOf0
  v0 := Tryz.zeroValue0
  t2 := Tryz.underlying2
  a2 := Tryz.isAgg2
  z2 := Tryz.sizeOf2
  v2 := Tryz.zeroValue2
  t3 := Tryz.underlying3
  a3 := Tryz.isAgg3
  z3 := Tryz.sizeOf3
  v3 := Tryz.zeroValue3
  t4 := Tryz.underlying4
  a4 := Tryz.isAgg4
  z4 := Tryz.sizeOf4
  v4 := Tryz.zeroValue4
  t5 := Tryz.underlying5
  a5 := Tryz.isAgg5
  z5 := Tryz.sizeOf5
  v5 := Tryz.zeroValue5
  t9 := Tryz.underlying9
  a9 := Tryz.isAgg9
  z9 := Tryz.sizeOf9
  v9 := Tryz.zeroValue9
  t20 := Tryz.underlying20
  a20 := Tryz.isAgg20
  z20 := Tryz.sizeOf20
  v20 := Tryz.zeroValue20
  t37 := Tryz.underlying237
  a37 := Tryz.isAgg237
  z37 := Tryz.sizeOf237
  v37 := Tryz.zeroValue237
  t46 := Tryz.underlying162
  a46 := Tryz.isAgg162
  z46 := Tryz.sizeOf162
  v46 := Tryz.zeroValue162
  t51 := Tryz.underlying254
  a51 := Tryz.isAgg254
  z51 := Tryz.sizeOf254
  v51 := Tryz.zeroValue254
  t53 := Tryz.underlying156
  a53 := Tryz.isAgg156
  z53 := Tryz.sizeOf156
  v53 := Tryz.zeroValue156
  t171 := Tryz.underlying281
  a171 := Tryz.isAgg281
  z171 := Tryz.sizeOf281
  v171 := Tryz.zeroValue281
  t173 := Tryz.underlying283
  a173 := Tryz.isAgg283
  z173 := Tryz.sizeOf283
  v173 := Tryz.zeroValue283
  t212 := Tryz.underlying310
  a212 := Tryz.isAgg310
  z212 := Tryz.sizeOf310
  v212 := Tryz.zeroValue310
  t213 := Tryz.underlying311
  a213 := Tryz.isAgg311
  z213 := Tryz.sizeOf311
  t232 := Tryz.underlying342
  a232 := Tryz.isAgg342
  z232 := Tryz.sizeOf342
  v232 := Tryz.zeroValue342
  t233 := Tryz.underlying343
  a233 := Tryz.isAgg343
  z233 := Tryz.sizeOf343
  v233 := Tryz.zeroValue343
  g17 := by kernel_rfl
  g18 := by kernel_rfl
  g19 := by kernel_rfl
  i0 := by kernel_rfl
  i2 := by kernel_rfl
  i3 := by kernel_rfl
  i4 := by kernel_rfl
  i5 := by kernel_rfl
  i9 := by kernel_rfl
  i20 := by kernel_rfl
  i37 := by kernel_rfl
  i46 := by kernel_rfl
  i51 := by kernel_rfl
  i53 := by kernel_rfl
  i171 := by kernel_rfl
  i173 := by kernel_rfl
  i212 := by kernel_rfl
  i232 := by kernel_rfl
  i233 := by kernel_rfl
  m17 := by kernel_rfl
  m18 := by kernel_rfl
  m19 := by kernel_rfl }
def laysC172_ren : Go.Shelf.Ren := ⟨fun | 172 => 163 | 244 => 214 | 245 => 215 | 247 => 257 | 279 => 258 | 280 => 259 | 281 => 260 | 282 => 261 | 287 => 286 | 316 => 287 | 171 => 94 | 205 => 288 | 321 => 304 | 322 => 305 | 243 => 145 | 246 => 181 | 283 => 239 | 284 => 240 | 285 => 241 | 286 => 242 | 129 => 199 | 317 => 276 | 318 => 277 | 319 => 278 | 320 => 279 | 337 => 301 | 338 => 302 | n => n, fun | 9 => 9 | 3 => 3 | 75 => 221 | 76 => 222 | 4 => 4 | 5 => 5 | 167 => 295 | 37 => 237 | 0 => 0 | 85 => 296 | 2 => 2 | 168 => 298 | 53 => 156 | 175 => 315 | 46 => 162 | 210 => 319 | 127 => 280 | 145 => 339 | 143 => 337 | 21 => 21 | 171 => 281 | 173 => 283 | 212 => 310 | 51 => 254 | 20 => 20 | 213 => 311 | 232 => 342 | 233 => 343 | 80 => 241 | n => n, fun | 15 => 2 | 16 => 3 | 17 => 1 | 18 => 6 | 19 => 7 | n => n⟩
theorem laysC172 : Go.Proofs.LaysC.n172 Tryz.prog laysC172_ren := {
  mixed := by kernel_rfl
  f129 := Tryz.func199.trans (congrArg some (by kernel_rfl))
  f171 := Tryz.func94.trans (congrArg some (by kernel_rfl))
  f172 := Tryz.func163.trans (congrArg some (by kernel_rfl))
  f205 := Tryz.func288.trans (congrArg some (by kernel_rfl))
  f243 := Tryz.func145.trans (congrArg some (by kernel_rfl))
  f244 := Tryz.func214.trans (congrArg some (by kernel_rfl))
  f245 := Tryz.func215.trans (congrArg some (by kernel_rfl))
  f246 := Tryz.func181.trans (congrArg some (by kernel_rfl))
  f247 := Tryz.func257.trans (congrArg some (by kernel_rfl))
  f279 := Tryz.func258.trans (congrArg some (by kernel_rfl))
  f280 := Tryz.func259.trans (congrArg some (by kernel_rfl))
  f281 := Tryz.func260.trans (congrArg some (by kernel_rfl))
  f282 := Tryz.func261.trans (congrArg some (by kernel_rfl))
  f283 := Tryz.func239.trans (congrArg some (by kernel_rfl))
  f284 := Tryz.func240.trans (congrArg some (by kernel_rfl))
  f285 := Tryz.func241.trans (congrArg some (by kernel_rfl))
  f286 := Tryz.func242.trans (congrArg some (by kernel_rfl))
  f287 := Tryz.func286.trans (congrArg some (by kernel_rfl))
  f316 := Tryz.func287.trans (congrArg some (by kernel_rfl))
  f317 := Tryz.func276.trans (congrArg some (by kernel_rfl))
  f318 := Tryz.func277.trans (congrArg some (by kernel_rfl))
  f319 := Tryz.func278.trans (congrArg some (by kernel_rfl))
  f320 := Tryz.func279.trans (congrArg some (by kernel_rfl))
  f321 := Tryz.func304.trans (congrArg some (by kernel_rfl))
  f322 := Tryz.func305.trans (congrArg some (by kernel_rfl))
  f337 := Tryz.func301.trans (congrArg some (by kernel_rfl))
  f338 := Tryz.func302.trans (congrArg some (by kernel_rfl))
  t0 := Tryz.underlying0
  a0 := Tryz.isAgg0
  z0 := Tryz.sizeOf0
  v0 := Tryz.zeroValue0
  t2 := Tryz.underlying2
  a2 := Tryz.isAgg2
  z2 := Tryz.sizeOf2
  v2 := Tryz.zeroValue2
  t3 := Tryz.underlying3
  a3 := Tryz.isAgg3
  z3 := Tryz.sizeOf3
  v3 := Tryz.zeroValue3
  t4 := Tryz.underlying4
  a4 := Tryz.isAgg4
  z4 := Tryz.sizeOf4
  v4 := Tryz.zeroValue4
  t5 := Tryz.underlying5
  a5 := Tryz.isAgg5
  z5 := Tryz.sizeOf5
  v5 := Tryz.zeroValue5
  t9 := Tryz.underlying9
  a9 := Tryz.isAgg9
  z9 := Tryz.sizeOf9
  v9 := Tryz.zeroValue9
  t20 := Tryz.underlying20
  a20 := Tryz.isAgg20
  z20 := Tryz.sizeOf20
  v20 := Tryz.zeroValue20
  t21 := Tryz.underlying21
  a21 := Tryz.isAgg21
  z21 := Tryz.sizeOf21
  v21 := Tryz.zeroValue21
  t37 := Tryz.underlying237
  a37 := Tryz.isAgg237
  z37 := Tryz.sizeOf237
  v37 := Tryz.zeroValue237
  t46 := Tryz.underlying162
  a46 := Tryz.isAgg162
  z46 := Tryz.sizeOf162
  v46 := Tryz.zeroValue162
  t51 := Tryz.underlying254
  a51 := Tryz.isAgg254
  z51 := Tryz.sizeOf254
  v51 := Tryz.zeroValue254
  t53 := Tryz.underlying156
  a53 := Tryz.isAgg156
  z53 := Tryz.sizeOf156
  v53 := Tryz.zeroValue156
  t75 := Tryz.underlying221
  a75 := Tryz.isAgg221
  z75 := Tryz.sizeOf221
  v75 := Tryz.zeroValue221
  t76 := Tryz.underlying222
  a76 := Tryz.isAgg222
  z76 := Tryz.sizeOf222
  v76 := Tryz.zeroValue222
  t85 := Tryz.underlying296
  a85 := Tryz.isAgg296
  z85 := Tryz.sizeOf296
  v85 := Tryz.zeroValue296
  t127 := Tryz.underlying280
  a127 := Tryz.isAgg280
  z127 := Tryz.sizeOf280
  v127 := Tryz.zeroValue280
  t143 := Tryz.underlying337
  a143 := Tryz.isAgg337
  z143 := Tryz.sizeOf337
  v143 := Tryz.zeroValue337
  t145 := Tryz.underlying339
  a145 := Tryz.isAgg339
  z145 := Tryz.sizeOf339
  v145 := Tryz.zeroValue339
  t167 := Tryz.underlying295
  a167 := Tryz.isAgg295
  z167 := Tryz.sizeOf295
  v167 := Tryz.zeroValue295
  t168 := Tryz.underlying298
  a168 := Tryz.isAgg298
  z168 := Tryz.sizeOf298
  v168 := Tryz.zeroValue298
  t171 := Tryz.underlying281
  a171 := Tryz.isAgg281
  z171 := Tryz.sizeOf281
  v171 := Tryz.zeroValue281
  t173 := Tryz.underlying283
  a173 := Tryz.isAgg283
  z173 := Tryz.sizeOf283
  v173 := Tryz.zeroValue283
  t175 := Tryz.underlying315
  a175 := Tryz.isAgg315
  z175 := Tryz.sizeOf315
  v175 := Tryz.zeroValue315
  t210 := Tryz.underlying319
  a210 := Tryz.isAgg319
  z210 := Tryz.sizeOf319
  v210 := Tryz.zeroValue319
  t212 := Tryz.underlying310
  a212 := Tryz.isAgg310
  z212 := Tryz.sizeOf310
  v212 := Tryz.zeroValue310
  t213 := Tryz.underlying311
  a213 := Tryz.isAgg311
  z213 := Tryz.sizeOf311
  t232 := Tryz.underlying342
  a232 := Tryz.isAgg342
  z232 := Tryz.sizeOf342
  v232 := Tryz.zeroValue342
  t233 := Tryz.underlying343
  a233 := Tryz.isAgg343
  z233 := Tryz.sizeOf343
  v233 := Tryz.zeroValue343
  g15 := by kernel_rfl
  g16 := by kernel_rfl
  g17 := by kernel_rfl
  g18 := by kernel_rfl
  g19 := by kernel_rfl
  t80 := Tryz.underlying241
  a80 := Tryz.isAgg241
  z80 := Tryz.sizeOf241
  v80 := Tryz.zeroValue241
  i0 := by kernel_rfl
  i2 := by kernel_rfl
  i3 := by kernel_rfl
  i4 := by kernel_rfl
  i5 := by kernel_rfl
  i9 := by kernel_rfl
  i20 := by kernel_rfl
  i21 := by kernel_rfl
  i37 := by kernel_rfl
  i46 := by kernel_rfl
  i51 := by kernel_rfl
  i53 := by kernel_rfl
  i75 := by kernel_rfl
  i76 := by kernel_rfl
  i80 := by kernel_rfl
  i85 := by kernel_rfl
  i127 := by kernel_rfl
  i143 := by kernel_rfl
  i145 := by kernel_rfl
  i167 := by kernel_rfl
  i168 := by kernel_rfl
  i171 := by kernel_rfl
  i173 := by kernel_rfl
  i175 := by kernel_rfl
  i210 := by kernel_rfl
  i212 := by kernel_rfl
  i232 := by kernel_rfl
  i233 := by kernel_rfl
  m15 := by kernel_rfl
  m16 := by kernel_rfl
  m17 := by kernel_rfl
  m18 := by kernel_rfl
  m19 := by kernel_rfl
  c0 := by kernel_rfl
  c2 := by kernel_rfl
  c3 := by kernel_rfl
  c4 := by kernel_rfl
  c5 := by kernel_rfl
  c9 := by kernel_rfl
  c20 := by kernel_rfl
  c21 := by kernel_rfl
  c37 := by kernel_rfl
  c46 := by kernel_rfl
  c51 := by kernel_rfl
  c53 := by kernel_rfl
  c75 := by kernel_rfl
  c76 := by kernel_rfl
  c80 := by kernel_rfl
  c85 := by kernel_rfl
  c127 := by kernel_rfl
  c143 := by kernel_rfl
  c145 := by kernel_rfl
  c167 := by kernel_rfl
  c168 := by kernel_rfl
  c171 := by kernel_rfl
  c173 := by kernel_rfl
  c175 := by kernel_rfl
  c210 := by kernel_rfl
  c212 := by kernel_rfl
  c213 := by kernel_rfl
  c232 := by kernel_rfl
  c233 := by kernel_rfl }
def lays146_ren : Go.Shelf.Ren := ⟨fun | 146 => 123 | 221 => 162 | 268 => 211 | 138 => 212 | 143 => 213 | 195 => 254 | 197 => 244 | 218 => 255 | 219 => 256 | 260 => 280 | 217 => 173 | 225 => 283 | 224 => 284 | 267 => 285 | 266 => 233 | 314 => 303 | n => n, fun | 9 => 9 | 31 => 32 | 3 => 3 | 4 => 4 | 0 => 0 | 105 => 286 | 21 => 21 | 5 => 5 | 46 => 162 | 119 => 330 | 139 => 333 | 138 => 332 | 146 => 334 | 51 => 254 | n => n, fun | 1 => 0 | 3 => 4 | 4 => 5 | n => n⟩
theorem lays146 : Go.Proofs.Lays.n146 Tryz.prog lays146_ren := {
  mixed := by kernel_rfl
  f138 := Tryz.func212.trans (congrArg some (by kernel_rfl))
  f143 := Tryz.func213.trans (congrArg some (by kernel_rfl))
  f146 := Tryz.func123.trans (congrArg some (by kernel_rfl))
  f195 := Tryz.func254.trans (congrArg some (by kernel_rfl))
  f197 := Tryz.func244.trans (congrArg some (by kernel_rfl))
  f217 := Tryz.func173.trans (congrArg some (by kernel_rfl))
  f218 := Tryz.func255.trans (congrArg some (by kernel_rfl))
  f219 := Tryz.func256.trans (congrArg some (by kernel_rfl))
  f221 := Tryz.func162.trans (congrArg some (by kernel_rfl))
  f224 := Tryz.func284.trans (congrArg some (by kernel_rfl))
  f225 := Tryz.func283.trans (congrArg some (by kernel_rfl))
  f260 := Tryz.func280.trans (congrArg some (by kernel_rfl))
  f266 := Tryz.func233.trans (congrArg some (by kernel_rfl))
  f267 := Tryz.func285.trans (congrArg some (by kernel_rfl))
  f268 := Tryz.func211.trans (congrArg some (by kernel_rfl))
  f314 := Tryz.func303.trans (congrArg some (by kernel_rfl))
  t0 := Tryz.underlying0
  a0 := Tryz.isAgg0
  z0 := Tryz.sizeOf0
  v0 := Tryz.zeroValue0
  t3 := Tryz.underlying3
  a3 := Tryz.isAgg3
  z3 := Tryz.sizeOf3
  v3 := Tryz.zeroValue3
  t4 := Tryz.underlying4
  a4 := Tryz.isAgg4
  z4 := Tryz.sizeOf4
  v4 := Tryz.zeroValue4
  t5 := Tryz.underlying5
  a5 := Tryz.isAgg5
  z5 := Tryz.sizeOf5
  v5 := Tryz.zeroValue5
  t9 := Tryz.underlying9
  a9 := Tryz.isAgg9
  z9 := Tryz.sizeOf9
  v9 := Tryz.zeroValue9
  t21 := Tryz.underlying21
  a21 := Tryz.isAgg21
  z21 := Tryz.sizeOf21
  v21 := Tryz.zeroValue21
  t31 := Tryz.underlying32
  a31 := Tryz.isAgg32
  z31 := Tryz.sizeOf32
  v31 := Tryz.zeroValue32
  t46 := Tryz.underlying162
  a46 := Tryz.isAgg162
  z46 := Tryz.sizeOf162
  v46 := Tryz.zeroValue162
  t51 := Tryz.underlying254
  a51 := Tryz.isAgg254
  z51 := Tryz.sizeOf254
  v51 := Tryz.zeroValue254
  t105 := Tryz.underlying286
  a105 := Tryz.isAgg286
  z105 := Tryz.sizeOf286
  v105 := Tryz.zeroValue286
  t119 := Tryz.underlying330
  a119 := Tryz.isAgg330
  z119 := Tryz.sizeOf330
  t138 := Tryz.underlying332
  a138 := Tryz.isAgg332
  z138 := Tryz.sizeOf332
  v138 := Tryz.zeroValue332
  t139 := Tryz.underlying333
  a139 := Tryz.isAgg333
  z139 := Tryz.sizeOf333
  v139 := Tryz.zeroValue333
  t146 := Tryz.underlying334
  a146 := Tryz.isAgg334
  z146 := Tryz.sizeOf334
  v146 := Tryz.zeroValue334
  g1 := by kernel_rfl
  g3 := by kernel_rfl
  g4 := by kernel_rfl }
end Go.Proofs.YtddghaoejnbkaaaGreatDoor

/- Contracts and lemmas for the proofs of this seat; each theorem states its own conditions. -/
namespace Go.Proofs.YtddghaoejnbkaaaGreatDoor
open Go.Lib
/-! plain laws of numerals and pieces of text -/
/-- a byte of a numeral -/
def numB (c : UInt8) : Bool := c == 45 || (48 ≤ c.toNat && c.toNat ≤ 57)
theorem dig_toNat {k : Nat} (h : k < 10) : (UInt8.ofNat (48 + k)).toNat = 48 + k := by
  rw [UInt8.toNat_ofNat']; omega
theorem dec_digs (u : Nat) : ∀ c ∈ decDigits u, 48 ≤ c.toNat ∧ c.toNat ≤ 57 := by
  induction u using Nat.strongRecOn with
  | _ u ih =>
    rw [decDigits]
    split
    · rename_i h
      intro c hc
      obtain rfl := List.mem_singleton.1 hc
      rw [dig_toNat h]; omega
    · rename_i h
      intro c hc
      rcases List.mem_append.1 hc with hc | hc
      · exact ih (u / 10) (by omega) c hc
      · obtain rfl := List.mem_singleton.1 hc
        rw [dig_toNat (Nat.mod_lt _ (by omega))]; have := Nat.mod_lt u (show 0 < 10 by omega); omega
theorem dec_ne (u : Nat) : decDigits u ≠ [] := by
  rw [decDigits]; split <;> simp
theorem itoa_numB (n : Int) : ∀ c ∈ itoa n, numB c = true := by
  intro c hc
  unfold itoa at hc
  have key : ∀ u, c ∈ decDigits u → numB c = true := fun u h => by
    have := dec_digs u c h
    simp [numB, this.1, this.2]
  split at hc
  · rcases List.mem_cons.1 hc with rfl | hc
    · rfl
    · exact key _ hc
  · exact key _ hc
theorem pu_append (b : List UInt8) : ∀ (a : List UInt8) (acc u : Nat), parseUint10 acc a = .ok u → parseUint10 acc (a ++ b) = parseUint10 u b
  | [], acc, u, h => by simp only [parseUint10] at h; injection h with h; subst h; rfl
  | c :: r, acc, u, h => by
    simp only [parseUint10] at h
    simp only [List.cons_append, parseUint10]
    split at h
    · rename_i h1
      rw [if_pos h1]
      split at h
      · cases h
      · rename_i h2
        rw [if_neg h2]
        split at h
        · cases h
        · rename_i h3
          rw [if_neg h3]
          exact pu_append b r _ u h
    · cases h
theorem pu_one {acc k : Nat} (hk : k < 10) (ha : acc < 1844674407370955161) : parseUint10 acc [UInt8.ofNat (48 + k)] = .ok (acc * 10 + k) := by
  simp only [parseUint10, dig_toNat hk]
  rw [if_pos (by omega), if_neg (by omega), if_neg (by omega)]
  congr 1
  omega
theorem pu_dec (u : Nat) : u < 1000000000000000000 → parseUint10 0 (decDigits u) = .ok u := by
  induction u using Nat.strongRecOn with
  | _ u ih =>
    intro hu
    rw [decDigits]
    split
    · rename_i h
      rw [pu_one h (by omega)]
      simp
    · rename_i h
      rw [pu_append _ _ _ _ (ih (u / 10) (by omega) (by omega)), pu_one (Nat.mod_lt _ (by omega)) (by omega)]
      congr 1
      omega
theorem mag_dec {u : Nat} (hu : u < 1000000000000000000) : parseMag (decDigits u) = .ok u := by
  rw [parseMag, if_neg (dec_ne u), pu_dec u hu]
theorem atoi_itoa {n : Int} (h0 : -1000000000000000000 < n) (h1 : n < 1000000000000000000) : atoiAll (itoa n) = .ok n := by
  unfold itoa
  split
  · rename_i h
    have e : parseMag (decDigits n.natAbs) = .ok n.natAbs := mag_dec (by omega)
    simp only [atoiAll]
    have t45 : UInt8.toNat 45 = 45 := rfl
    rw [t45, if_pos (Or.inr rfl), e]
    simp only
    rw [if_neg (fun q => q.1 trivial), if_neg (fun q => by have := q.2; omega), if_pos trivial]
    congr 1
    omega
  · rename_i h
    have e : parseMag (decDigits n.toNat) = .ok n.toNat := mag_dec (by omega)
    have hd := dec_digs n.toNat
    revert e hd
    cases hL : decDigits n.toNat with
    | nil => exact absurd hL (dec_ne _)
    | cons c r =>
      intro e hd
      have hc := hd c (by simp)
      simp only [atoiAll]
      rw [if_neg (by omega), e]
      simp only
      rw [if_neg (by omega), if_neg (by omega), if_neg (by omega)]
      congr 1
      omega
/-- a number as Itoa has it, of at most 11 bytes -/
def numL (l : List UInt8) : Option Int := match atoiAll l with | .ok v => if l.length ≤ 11 ∧ itoa v = l then some v else none | _ => none
theorem numL_some {l : List UInt8} {v : Int} (h : numL l = some v) : itoa v = l ∧ l.length ≤ 11 ∧ atoiAll l = .ok v := by
  unfold numL at h
  split at h
  · rename_i u hu
    split at h
    · rename_i q
      injection h with h
      subst h
      exact ⟨q.2, q.1, hu⟩
    · cases h
  · cases h
theorem itoa_len_val {n : Int} (h0 : -1000000000 ≤ n) (h1 : n ≤ 1000000000) : (itoa n).length ≤ 11 := by
  have key : ∀ u : Nat, u ≤ 1000000000 → nDigits u ≤ 10 := by
    intro u hu
    by_cases h : nDigits u ≤ 10
    · exact h
    · exfalso
      have g : ∀ k u, nDigits u = k + 1 → 1 ≤ k → 10 ^ k ≤ u := by
        intro k
        induction k with
        | zero => intro u _ h; omega
        | succ k ih =>
          intro u h _
          by_cases hs : u < 10
          · rw [nDigits_small hs] at h; omega
          · rw [nDigits_big hs] at h
            by_cases hk : k = 0
            · subst hk; simp; omega
            · have := ih (u / 10) (by omega) (by omega)
              rw [Nat.pow_succ]; omega
      have p := nDigits_pos u
      have := g (nDigits u - 1) u (by omega) (by omega)
      have : 10 ^ 10 ≤ 10 ^ (nDigits u - 1) := Nat.pow_le_pow_right (by omega) (by omega)
      omega
  unfold itoa
  split
  · simp only [List.length_cons, decDigits_length]; have := key n.natAbs (by omega); omega
  · rw [decDigits_length]; have := key n.toNat (by omega); omega
theorem numL_itoa {n : Int} (h0 : -1000000000 ≤ n) (h1 : n ≤ 1000000000) : numL (itoa n) = some n := by
  unfold numL
  rw [atoi_itoa (by omega) (by omega)]
  simp only
  rw [if_pos ⟨itoa_len_val h0 h1, trivial⟩]
/-! pieces -/
/-- the pieces between the bytes c -/
def psp (c : UInt8) : List UInt8 → List (List UInt8)
  | [] => [[]]
  | b :: l => if b = c then [] :: psp c l else (b :: (psp c l).headD []) :: (psp c l).tail
/-- put together again -/
def jn (c : UInt8) : List (List UInt8) → List UInt8
  | [] => []
  | x :: r => x ++ r.flatMap (c :: ·)
theorem psp_ne (c : UInt8) (l : List UInt8) : psp c l ≠ [] := by
  cases l <;> simp [psp] <;> split <;> simp
theorem psp_cons (c : UInt8) (l : List UInt8) : psp c l = (psp c l).headD [] :: (psp c l).tail := by
  have := psp_ne c l
  cases h : psp c l with
  | nil => exact absurd h this
  | cons a b => rfl
theorem jn_psp (c : UInt8) : ∀ l, jn c (psp c l) = l
  | [] => rfl
  | b :: l => by
    have ih := jn_psp c l
    rw [psp_cons] at ih
    simp only [jn] at ih
    simp only [psp]
    split
    · rename_i h
      subst h
      rw [jn, psp_cons, List.nil_append, List.flatMap_cons, List.cons_append, ih]
    · rw [jn, List.cons_append, ih]
theorem psp_none {c : UInt8} : ∀ {l : List UInt8}, c ∉ l → psp c l = [l]
  | [], _ => rfl
  | b :: l, h => by
    have hb : b ≠ c := fun e => h (by simp [e])
    have := psp_none (c := c) (l := l) (fun q => h (by simp [q]))
    simp [psp, hb, this]
theorem psp_app {c : UInt8} : ∀ {x : List UInt8}, c ∉ x → ∀ r, psp c (x ++ c :: r) = x :: psp c r
  | [], _, r => by simp [psp]
  | b :: x, h, r => by
    have hb : b ≠ c := fun e => h (by simp [e])
    have := psp_app (c := c) (x := x) (fun q => h (by simp [q])) r
    simp [psp, hb, this]
theorem psp_jn {c : UInt8} : ∀ (r : List (List UInt8)) (x : List UInt8), (∀ y ∈ x :: r, c ∉ y) → psp c (jn c (x :: r)) = x :: r
  | [], x, h => by simp only [jn, List.flatMap_nil, List.append_nil]; exact psp_none (h x (by simp))
  | y :: r, x, h => by
    have := psp_jn r y (fun z hz => h z (List.mem_cons_of_mem _ hz))
    simp only [jn, List.flatMap_cons, List.cons_append] at this ⊢
    rw [psp_app (h x (by simp)), this]
theorem psp_mem {c : UInt8} : ∀ (l : List UInt8), ∀ p ∈ psp c l, c ∉ p
  | [], p, h => by simp [psp] at h; simp [h]
  | b :: l, p, h => by
    have ih := psp_mem (c := c) l
    simp only [psp] at h
    split at h
    · rcases List.mem_cons.1 h with rfl | h
      · simp
      · exact ih p h
    · rename_i hb
      rcases List.mem_cons.1 h with rfl | h
      · have := ih ((psp c l).headD []) (by rw [psp_cons]; simp)
        intro q
        rcases List.mem_cons.1 q with q | q
        · exact hb q.symm
        · exact this q
      · exact ih p (by rw [psp_cons]; exact List.mem_cons_of_mem _ h)
theorem psp_sub {c : UInt8} : ∀ (l : List UInt8), ∀ p ∈ psp c l, p.length ≤ l.length
  | [], p, h => by simp [psp] at h; simp [h]
  | b :: l, p, h => by
    have ih := psp_sub (c := c) l
    simp only [psp] at h
    split at h
    · rcases List.mem_cons.1 h with rfl | h
      · simp
      · have := ih p h; simp; omega
    · rcases List.mem_cons.1 h with rfl | h
      · have := ih ((psp c l).headD []) (by rw [psp_cons]; simp)
        simp only [List.length_cons]; omega
      · have := ih p (by rw [psp_cons]; exact List.mem_cons_of_mem _ h); simp; omega
theorem splitK_psp (c : UInt8) : ∀ l : List UInt8, splitK [c] 0 (count l [c]) l = psp c l
  | [] => by simp [count, countFrom, index, splitK, psp]
  | b :: l => by
    have ih := splitK_psp c l
    by_cases hb : b = c
    · subst hb
      rw [count_cons_eq, Nat.add_comm]
      have e : index (b :: l) [b] = 0 := by simp [index, List.isPrefixOf]
      simp [splitK, e, psp, ih]
    · rw [count_cons_ne b c l hb]
      have hp : (b == c) = false := by simpa using hb
      have hcb : (c == b) = false := by simp; exact fun e => hb e.symm
      have e : index (b :: l) [c] = if index l [c] == -1 then -1 else index l [c] + 1 := by
        simp [index, List.isPrefixOf, hcb]
      have hge := index_ge l [c]
      simp only [psp, if_neg hb]
      cases hk : count l [c] with
      | zero =>
        rw [hk] at ih
        simp only [splitK] at ih ⊢
        rw [← ih]; rfl
      | succ k =>
        rw [hk] at ih
        have hne : ¬ index l [c] = -1 := by
          intro q
          rw [count_miss q] at hk; cases hk
        simp only [splitK] at ih ⊢
        rw [if_neg (by simp only [beq_iff_eq]; exact hne)] at ih
        have h1 : (index l [c] == -1) = false := by simp only [beq_eq_false_iff_ne]; exact hne
        have h2 : (index l [c] + 1 == -1) = false := by simp only [beq_eq_false_iff_ne]; omega
        simp only [e, h1, h2, Bool.false_eq_true, if_false]
        rw [← ih]
        obtain ⟨i, hi⟩ : ∃ i : Nat, index l [c] = i := ⟨(index l [c]).toNat, by omega⟩
        rw [hi, show ((i : Int) + 1).toNat = i + 1 by omega, show ((i : Nat) : Int).toNat = i by omega]
        simp [Nat.add_right_comm]
theorem splitB_psp (s : ByteArray) (c : UInt8) : (splitB ⟨#[c]⟩ 0 (countB s ⟨#[c]⟩) s).map (·.data.toList) = psp c s.data.toList := by
  rw [splitB_data]; exact splitK_psp c s.data.toList
end Go.Proofs.YtddghaoejnbkaaaGreatDoor
