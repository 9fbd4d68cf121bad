/- Contracts and lemmas for the proof of TextLines; each theorem states its own conditions. -/
import Derived.Test.YtnepdfpooobmcaaGreatDoorQTextLinesax
import Derived.Test.YtnepdfpooobmcaaGreatDoorQTextLinesae
import Derived.Test.YtnepdfpooobmcaaGreatDoorQTextLinesay
import Derived.Test.YtnepdfpooobmcaaGreatDoorQTextLinesad
import Derived.Test.YtnepdfpooobmcaaGreatDoorQTextLinesap
set_option linter.unusedVariables false
set_option linter.unusedSimpArgs false
/- Contracts and lemmas for the proofs of this seat; each theorem states its own conditions. -/
namespace Go.Proofs.YtnepdfpooobmcaaGreatDoor
open Go.RowKit
/-! text.Sum -/
/-- the sum over the first k bytes -/
def sbTo (l : List UInt8) : Nat → Nat
  | 0 => 0
  | k + 1 => (sbTo l k + (k + 1) * (l.getD k 0).toNat) % 65521
def sbL (l : List UInt8) : Nat := sbTo l l.length
theorem sbTo_lt (l : List UInt8) : ∀ k, sbTo l k < 65521
  | 0 => by simp [sbTo]
  | k + 1 => by rw [sbTo]; exact Nat.mod_lt _ (by decide)
theorem sb_step (l : List UInt8) (k : Nat) (h : k < 4611686018427387904 / 256) : ((sbTo l k : Int) + ((k : Int) + 1) * ((l.getD k 0).toNat : Int)).tmod 65521 = (sbTo l (k + 1) : Nat) := by
  rw [sbTo, Int.tmod_eq_emod_of_nonneg (by have := Int.mul_nonneg (show (0 : Int) ≤ (k : Int) + 1 by omega) (show (0 : Int) ≤ ((l.getD k 0).toNat : Int) by omega); omega)]
  rw [Int.natCast_emod, Int.natCast_add, Int.natCast_mul]
  rfl
theorem wr64 {n : Int} (h : -9223372036854775808 ≤ n ∧ n ≤ 9223372036854775807) : wrap64 n = n := by unfold wrap64; omega
set_option maxRecDepth 10000 in
theorem tsum_any (s : ByteArray) (w : World) (hs : s.size ≤ 4000000000) :
    Calls Tryz.prog 22 #[.string s] w fun e w' => e = .returned (.int .i64 (sbL s.data.toList)) ∧ w' = w := by
  go_enter Tryz.func22, Tryz.ntmps22
  go_wp2
  go_loop [3, 7] (fun n iv => ∃ k : Nat, k ≤ s.size ∧ iv = .int .i64 k ∧ n = .int .i64 (sbTo s.data.toList k)) (fun _ i => s.size - (intOf i).toNat)
  case atStart => exact ⟨0, Nat.zero_le _, rfl, rfl⟩
  case round =>
    obtain ⟨k, hk, rfl, rfl⟩ := hrel
    by_cases hlt : k < s.size
    · have hst := sb_step s.data.toList k (by omega)
      have hb := sbTo_lt s.data.toList k
      have hg : s.data.toList.getD k 0 = s[k] := by rw [List.getD_eq_getElem?_getD, idx_list s hlt]; rfl
      rw [hg] at hst
      have hc := s[k].toNat_lt
      go_wp2
      refine ⟨⟨k + 1, by omega, by go_num, rIn ?_⟩, by simp [intOf]; omega⟩
      have h1 : ((k : Int) + 1) * (s[k].toNat : Int) ≤ ((k : Int) + 1) * 255 := Int.mul_le_mul_of_nonneg_left (by omega) (by omega)
      have h0 : 0 ≤ ((k : Int) + 1) * (s[k].toNat : Int) := Int.mul_nonneg (by omega) (by omega)
      rw [wr64 (n := ((k : Int) + 1) * (s[k].toNat : Int)) (by omega), wr64 (by omega)]
      exact hst
    · obtain rfl : k = s.size := by omega
      go_wp2
      go_ret
      exact ⟨congrArg Ending.returned (rIn (by rw [sbL, toL_len])), rfl⟩
end Go.Proofs.YtnepdfpooobmcaaGreatDoor

/- Contracts and lemmas for the proofs of this seat; each theorem states its own conditions. -/
namespace Go.Proofs.YtnepdfpooobmcaaGreatDoor
open Go.RowKit
/-! roref.Dec, roref.Sum -/
theorem dig_str : ∀ n : Fin 10, (⟨#[48, 49, 50, 51, 52, 53, 54, 55, 56, 57]⟩ : ByteArray).extract n.val (n.val + 1) = bA [UInt8.ofNat (48 + n.val)] := by decide +kernel
theorem dec_10 {u : Nat} (h : u < 10) : Lib.decDigits u = [UInt8.ofNat (48 + u)] := by rw [Lib.decDigits, dif_pos h]
theorem dec_split {u : Nat} (h : ¬ u < 10) : bA (Lib.decDigits u) = bA (Lib.decDigits (u / 10)) ++ bA (Lib.decDigits (u % 10)) := by
  rw [← bA_append, dec_10 (Nat.mod_lt u (by decide))]
  have e : Lib.decDigits u = Lib.decDigits (u / 10) ++ [UInt8.ofNat (48 + u % 10)] := by
    conv => lhs; rw [Lib.decDigits]
    rw [dif_neg h]
  rw [e]
theorem dec_small {u : Nat} (h : u ≤ 1000000000000) : (bA (Lib.decDigits u)).size ≤ 14 := by
  have := Lib.decDigits_length u
  rw [bA_size, this]
  have g : ∀ k u, Lib.nDigits u = k + 1 → 1 ≤ k → 10 ^ k ≤ u := by
    intro k
    induction k with
    | zero => intro u _ h; omega
    | succ k ih =>
      intro u h _
      by_cases hs : u < 10
      · rw [Lib.nDigits_small hs] at h; omega
      · rw [Lib.nDigits_big hs] at h
        by_cases hk : k = 0
        · subst hk; simp; omega
        · have := ih (u / 10) (by omega) (by omega)
          rw [Nat.pow_succ]; omega
  by_cases hq : Lib.nDigits u ≤ 14
  · exact hq
  · exfalso
    have := g (Lib.nDigits u - 1) u (by omega) (by omega)
    have : 10 ^ 14 ≤ 10 ^ (Lib.nDigits u - 1) := Nat.pow_le_pow_right (by omega) (by omega)
    omega
set_option maxRecDepth 100000 in
set_option maxHeartbeats 1000000 in
theorem decN_any (u : Nat) : u ≤ 1000000000000 → ∀ w, Calls Tryz.prog 105 #[.int .i64 u] w fun e w' => e = .returned (.string (bA (Lib.decDigits u))) ∧ w' = w := by
  induction u using Nat.strongRecOn with
  | _ u ih =>
    intro hu w
    by_cases h : u < 10
    · have h1 := dig_str ⟨u, h⟩
      rw [dec_10 h]
      simp only at h1
      rw [← h1]
      have q0 : ¬ ((u : Int) < 0) := by omega
      have q1 : ((u : Int) < 10) := by omega
      clear ih h1
      go_enter Tryz.func105, Tryz.ntmps105
      go_wp2
      go_ret
      exact ⟨rfl, rfl⟩
    · have q0 : ¬ ((u : Int) < 0) := by omega
      have q1 : ¬ ((u : Int) < 10) := by omega
      have q2 : (u : Int).tdiv 10 = ((u / 10 : Nat) : Int) := by rw [Int.tdiv_eq_ediv_of_nonneg (by omega)]; omega
      have q3 : (u : Int).tmod 10 = ((u % 10 : Nat) : Int) := by rw [Int.tmod_eq_emod_of_nonneg (by omega)]; omega
      have C1 := hid (ih (u / 10) (by omega) (by omega))
      have C2 := hid (ih (u % 10) (by omega) (by omega))
      have z1 := dec_small (u := u / 10) (by omega)
      have z2 := dec_small (u := u % 10) (by omega)
      have HE := hid (dec_split h)
      generalize bA (Lib.decDigits (u / 10)) = A at *
      generalize bA (Lib.decDigits (u % 10)) = B at *
      generalize bA (Lib.decDigits u) = R at *
      clear ih
      go_enter Tryz.func105, Tryz.ntmps105
      go_wp2_with fail
      refine (C1.out _).mono ?_
      rintro e w1 ⟨rfl, rfl⟩
      go_wp2_with fail
      refine (C2.out _).mono ?_
      rintro e w1 ⟨rfl, rfl⟩
      go_wp2
      go_ret
      exact ⟨by rw [HE.out]; rfl, rfl⟩
theorem itoa_pos (u : Nat) : Lib.itoa (u : Int) = Lib.decDigits u := by
  unfold Lib.itoa
  rw [if_neg (by omega)]
  congr 1
theorem itoa_neg {n : Int} (h : n < 0) : bA (Lib.itoa n) = ⟨#[45]⟩ ++ bA (Lib.decDigits n.natAbs) := by
  unfold Lib.itoa
  rw [if_pos h]
  show bA ([45] ++ Lib.decDigits n.natAbs) = _
  rw [bA_append]
  rfl
set_option maxRecDepth 100000 in
set_option maxHeartbeats 1000000 in
theorem dec_any (n : Int) (w : World) (h0 : -1000000000000 ≤ n) (h1 : n ≤ 1000000000000) : Calls Tryz.prog 105 #[.int .i64 n] w fun e w' => e = .returned (.string (bA (Lib.itoa n))) ∧ w' = w := by
  by_cases hn : n < 0
  · have HE := hid (itoa_neg hn)
    have C1 := hid (fun w' => decN_any n.natAbs (by omega) w')
    have z1 := dec_small (u := n.natAbs) (by omega)
    have q1 : ((n.natAbs : Nat) : Int) = -n := by omega
    rw [q1] at C1
    generalize bA (Lib.decDigits n.natAbs) = A at *
    generalize bA (Lib.itoa n) = R at *
    clear q1
    go_enter Tryz.func105, Tryz.ntmps105
    go_wp2_with fail
    refine (C1.out _).mono ?_
    rintro e w1 ⟨rfl, rfl⟩
    go_wp2
    go_ret
    exact ⟨by rw [HE.out]; rfl, rfl⟩
  · obtain ⟨u, rfl⟩ : ∃ u : Nat, n = u := ⟨n.toNat, by omega⟩
    rw [itoa_pos]
    exact decN_any u (by omega) w
/-- the sum of all, not reduced -/
def sbAll (l : List UInt8) : Nat → Nat
  | 0 => 0
  | k + 1 => sbAll l k + (k + 1) * (l.getD k 0).toNat
theorem sbTo_all (l : List UInt8) : ∀ k, sbTo l k = sbAll l k % 65521
  | 0 => rfl
  | k + 1 => by rw [sbTo, sbAll, sbTo_all l k, Nat.mod_add_mod]
theorem rs_step {l : List UInt8} {k d : Nat} (h : sbAll l (k + 1) + d = sbAll l l.length) (hk : k < 4611686018427387904 / 256) :
    (((d % 65521 : Nat) : Int) + ((k : Int) + 1) * ((l.getD k 0).toNat : Int)).tmod 65521 = (((d + (k + 1) * (l.getD k 0).toNat) % 65521 : Nat) : Int) := by
  rw [Int.tmod_eq_emod_of_nonneg (by have := Int.mul_nonneg (show (0 : Int) ≤ (k : Int) + 1 by omega) (show (0 : Int) ≤ ((l.getD k 0).toNat : Int) by omega); omega)]
  rw [← Nat.mod_add_mod]
  generalize d % 65521 = x
  rw [Int.natCast_emod, Int.natCast_add, Int.natCast_mul]
  rfl
set_option maxRecDepth 100000 in
theorem rsum_any (s : ByteArray) (w : World) (hs : s.size ≤ 4000000000) :
    Calls Tryz.prog 23 #[.string s] w fun e w' => e = .returned (.int .i64 (sbL s.data.toList)) ∧ w' = w := by
  go_enter Tryz.func23, Tryz.ntmps23
  go_wp2
  go_loop [3, 4] (fun n iv => ∃ k d : Nat, k ≤ s.size ∧ sbAll s.data.toList k + d = sbAll s.data.toList s.data.toList.length ∧ iv = .int .i64 k ∧ n = .int .i64 ((d % 65521 : Nat) : Int)) (fun _ i => (intOf i).toNat)
  case atStart => exact ⟨s.size, 0, Nat.le_refl _, by rw [toL_len]; rfl, rfl, rfl⟩
  case round =>
    obtain ⟨k, d, hk, hd, rfl, rfl⟩ := hrel
    cases k with
    | zero =>
      have hz : d % 65521 = sbL s.data.toList := by
        rw [sbL, sbTo_all, ← hd]
        simp [sbAll]
      rw [hz]
      go_wp2
      go_ret
      exact ⟨rfl, rfl⟩
    | succ k =>
      have hst := rs_step (k := k) hd (by omega)
      have hb := Nat.mod_lt d (show 0 < 65521 by omega)
      have hlt : k < s.size := hk
      have hg : s.data.toList.getD k 0 = s[k] := by rw [List.getD_eq_getElem?_getD, idx_list s hlt]; rfl
      have hd2 : sbAll s.data.toList k + (d + (k + 1) * (s.data.toList.getD k 0).toNat) = sbAll s.data.toList s.data.toList.length := by rw [← hd, sbAll]; omega
      rw [hg] at hst hd2
      have hc := s[k].toNat_lt
      generalize d % 65521 = x at *
      have q1 : ((k + 1 : Nat) : Int) - 1 = (k : Int) := by omega
      have HD := hid hd2
      clear hd hd2
      go_wp2
      refine ⟨⟨k, _, by omega, HD.out, by go_num, rIn ?_⟩, by simp [intOf]⟩
      have h1 : ((k : Int) + 1) * (s[k].toNat : Int) ≤ ((k : Int) + 1) * 255 := Int.mul_le_mul_of_nonneg_left (by omega) (by omega)
      have h0 : 0 ≤ ((k : Int) + 1) * (s[k].toNat : Int) := Int.mul_nonneg (by omega) (by omega)
      rw [wr64 (n := ((k : Int) + 1) * (s[k].toNat : Int)) (by omega), wr64 (by omega)]
      exact hst
end Go.Proofs.YtnepdfpooobmcaaGreatDoor
