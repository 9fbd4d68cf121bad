/- Contracts and lemmas for the proof of MergePlays; each theorem states its own conditions. -/
import Derived.Test.YtddghaoejnbkaaaDoorQMergePlaysal
set_option linter.unusedVariables false
set_option linter.unusedSimpArgs false
/- Contracts and lemmas for the proofs of this seat; each theorem states its own conditions. -/
namespace Go.Proofs.YtddghaoejnbkaaaDoor
open Go.RowKit
theorem cutOk_key {cuts : List ByteArray} {i : Nat} (hi : i < cuts.length) (h : keyB cuts[i] = false) : cutOk cuts i = false := by simp [cutOk, kAt_eq hi, h]
theorem cutOk_lt {cuts : List ByteArray} {i : Nat} (hi : i + 1 < cuts.length) (h : blt (cuts[i]'(by omega)) cuts[i + 1] = false) : cutOk cuts (i + 1) = false := by simp [cutOk, kAt_eq hi, kAt_eq (show i < cuts.length by omega), h]
theorem cutOk_yes {cuts : List ByteArray} {i : Nat} (hi : i + 1 < cuts.length) (hk : keyB cuts[i + 1] = true) (h : blt (cuts[i]'(by omega)) cuts[i + 1] = true) : cutOk cuts (i + 1) = true := by simp [cutOk, kAt_eq hi, kAt_eq (show i < cuts.length by omega), h, hk]
theorem cutOk_zero {cuts : List ByteArray} (hi : 0 < cuts.length) (hk : keyB cuts[0] = true) : cutOk cuts 0 = true := by simp [cutOk, kAt_eq hi, hk]
theorem mapErr_2 {cuts : List ByteArray} {owners : List Int} (h : 12 < cuts.length) : mapErr cuts owners = 2 := by simp [mapErr, h]
theorem mapErr_3 {cuts : List ByteArray} {owners : List Int} (h : ¬ 12 < cuts.length) (h' : owners.length ≠ cuts.length + 1) : mapErr cuts owners = 3 := by simp [mapErr, h, h']
theorem mapErr_cut {cuts : List ByteArray} {owners : List Int} (h : ¬ 12 < cuts.length) (h' : owners.length = cuts.length + 1) {i : Nat} (hi : i < cuts.length) (hf : cutOk cuts i = false) : mapErr cuts owners = 3 := by
  simp only [mapErr, if_neg h, h', ne_eq, not_true_eq_false, if_false, all_false hi hf]; simp
theorem mapErr_own {cuts : List ByteArray} {owners : List Int} (h : ¬ 12 < cuts.length) (h' : owners.length = cuts.length + 1) (hc : allTo (cutOk cuts) cuts.length) {i : Nat} (hi : i < owners.length) (hf : ownOk owners i = false) : mapErr cuts owners = 1 := by
  unfold mapErr
  rw [if_neg h, if_neg (by simp [h']), if_pos (all_true hc), if_neg (by rw [all_false hi hf]; simp)]
theorem ownOk_no {owners : List Int} {i : Nat} (hi : i < owners.length) (h : owners[i] < 0 ∨ 4 ≤ owners[i]) : ownOk owners i = false := by
  simp [ownOk, hi]; omega
theorem ownOk_yes {owners : List Int} {i : Nat} (hi : i < owners.length) (h : 0 ≤ owners[i]) (h' : owners[i] < 4) : ownOk owners i = true := by
  simp [ownOk, hi]; omega
set_option maxRecDepth 10000 in
set_option maxHeartbeats 400000 in
theorem mcheck_any (v : Value) (cuts : List ByteArray) (owners : List Int) (w : World) (hv : IsMap w v cuts owners) (hk : ∀ k ∈ cuts, k.size ≤ 9223372036854775807) :
    Calls Tryd.prog 32 #[v] w fun e w' => e = .returned (.int .i64 (mapErr cuts owners)) ∧ Ext w w' := by
  obtain ⟨c, o, rfl, h1, h2⟩ := hv
  obtain ⟨h10, a1, k1, rfl, h11, h12, h13⟩ := h1
  obtain ⟨h20, a2, k2, rfl, h21, h22, h23⟩ := h2
  unfold maxLen at h12 h22
  by_cases g1 : 12 < cuts.length
  · go_enter Tryd.func32, Tryd.ntmps32
    go_wp2
    go_ret
    exact ⟨rI (mapErr_2 g1).symm, by (repeat (first | (with_reducible assumption) | (with_reducible exact Ext.refl _) | (with_reducible refine Ext.drew ?_) | (with_reducible refine Ext.drewN ?_ _) | (with_reducible refine Ext.alloc ?_ _) | (with_reducible refine Ext.trans ?_ (by with_reducible assumption))))⟩
  by_cases g2 : owners.length = cuts.length + 1
  case neg =>
    have q : ((owners.length : Int) != (cuts.length : Int) + 1) = true := by rw [bne_iff_ne]; omega
    go_enter Tryd.func32, Tryd.ntmps32
    go_wp2
    go_ret
    exact ⟨rI (mapErr_3 g1 g2).symm, by (repeat (first | (with_reducible assumption) | (with_reducible exact Ext.refl _) | (with_reducible refine Ext.drew ?_) | (with_reducible refine Ext.drewN ?_ _) | (with_reducible refine Ext.alloc ?_ _) | (with_reducible refine Ext.trans ?_ (by with_reducible assumption))))⟩
  have q : ((owners.length : Int) != (cuts.length : Int) + 1) = false := by simp; omega
  have G2 := (show Hid (owners.length = cuts.length + 1) from g2)
  clear g2
  go_enter Tryd.func32, Tryd.ntmps32
  go_wp2
  go_loop [2, 3, 4, 22] (fun r _ _ i => ∃ k : Nat, k ≤ cuts.length ∧ i = .int .i64 k ∧ r = .int .i64 0 ∧ allTo (cutOk cuts) k) (fun _ _ _ i => cuts.length - (intOf i).toNat)
  case atStart => exact ⟨0, Nat.zero_le _, rfl, rfl, allTo_zero _⟩
  case round =>
    obtain ⟨k, hkl, rfl, rfl, hall⟩ := hrel
    by_cases hlt : k < cuts.length
    · obtain ⟨b, off, rfl, hc⟩ := h13 (by omega)
      have c1 := cell1 (hc _ _ (cS_at0 cuts k hlt))
      have hsz := hk cuts[k] (List.getElem_mem hlt)
      cases hkey : keyB cuts[k] with
      | false =>
        go_wp2_with fail
        refine (key_any _ _ hsz).mono ?_
        rintro e w' ⟨rfl, rfl⟩
        go_wp2
        go_ret
        exact ⟨rI (mapErr_cut g1 G2.out hlt (cutOk_key hlt hkey)).symm, by (repeat (first | (with_reducible assumption) | (with_reducible exact Ext.refl _) | (with_reducible refine Ext.drew ?_) | (with_reducible refine Ext.drewN ?_ _) | (with_reducible refine Ext.alloc ?_ _) | (with_reducible refine Ext.trans ?_ (by with_reducible assumption))))⟩
      | true =>
        cases k with
        | zero =>
          have hs := allTo_succ hall (cutOk_zero hlt hkey)
          simp only [Nat.add_zero] at c1
          clear hc h13
          go_wp2_with fail
          refine (key_any _ _ hsz).mono ?_
          rintro e w' ⟨rfl, rfl⟩
          go_wp2
          go_round
          case rel => exact ⟨1, by omega, by go_num, rfl, hs⟩
          case measure => simp [intOf]; omega
        | succ k =>
          have c2 := cell1 (hc _ _ (cS_at0 cuts k (by omega)))
          clear hc h13
          cases hb : blt (cuts[k]'(by omega)) cuts[k + 1] with
          | false =>
            have hb' : Op.bytesLess (cuts[k]'(by omega)).toList cuts[k + 1].toList = false := hb
            go_wp2_with fail
            refine (key_any _ _ hsz).mono ?_
            rintro e w' ⟨rfl, rfl⟩
            go_wp2
            go_ret
            exact ⟨rI (mapErr_cut g1 G2.out hlt (cutOk_lt hlt hb)).symm, by (repeat (first | (with_reducible assumption) | (with_reducible exact Ext.refl _) | (with_reducible refine Ext.drew ?_) | (with_reducible refine Ext.drewN ?_ _) | (with_reducible refine Ext.alloc ?_ _) | (with_reducible refine Ext.trans ?_ (by with_reducible assumption))))⟩
          | true =>
            have hb' : Op.bytesLess (cuts[k]'(by omega)).toList cuts[k + 1].toList = true := hb
            have hs := allTo_succ hall (cutOk_yes hlt hkey hb)
            go_wp2_with fail
            refine (key_any _ _ hsz).mono ?_
            rintro e w' ⟨rfl, rfl⟩
            go_wp2
            go_round
            case rel => exact ⟨k + 1 + 1, by omega, by go_num, rfl, hs⟩
            case measure => simp [intOf]; omega
    · obtain rfl : k = cuts.length := by omega
      go_wp2
      go_loop [2, 6, 48] (fun r _ i => ∃ k : Nat, k ≤ owners.length ∧ i = .int .i64 k ∧ r = .int .i64 0 ∧ allTo (ownOk owners) k) (fun _ _ i => owners.length - (intOf i).toNat)
      case atStart => exact ⟨0, Nat.zero_le _, rfl, rfl, allTo_zero _⟩
      case round =>
        obtain ⟨k, hkl, rfl, rfl, hall2⟩ := hrel
        by_cases hlt2 : k < owners.length
        · obtain ⟨b, off, rfl, hc⟩ := h23 (by omega)
          have c1 := cell1 (hc _ _ (cI_at0 owners k hlt2))
          clear hc h23
          by_cases ho : owners[k] < 0 ∨ 4 ≤ owners[k]
          · have hno := ownOk_no hlt2 ho
            rcases ho with ho | ho
            all_goals
              go_wp2
              all_goals
                go_ret
                exact ⟨rI (mapErr_own g1 G2.out hall hlt2 hno).symm, by (repeat (first | (with_reducible assumption) | (with_reducible exact Ext.refl _) | (with_reducible refine Ext.drew ?_) | (with_reducible refine Ext.drewN ?_ _) | (with_reducible refine Ext.alloc ?_ _) | (with_reducible refine Ext.trans ?_ (by with_reducible assumption))))⟩
          · have hs := allTo_succ hall2 (ownOk_yes hlt2 (by omega) (by omega))
            have ho1 : 0 ≤ owners[k] := by omega
            have ho2 : owners[k] < 4 := by omega
            clear ho
            go_wp2
            go_round
            case rel => exact ⟨k + 1, by omega, by go_num, rfl, hs⟩
            case measure => simp [intOf]; omega
        · obtain rfl : k = owners.length := by omega
          go_wp2
          go_ret
          exact ⟨rI (mapErr_ok ⟨by omega, G2.out, hall, hall2⟩).symm, by (repeat (first | (with_reducible assumption) | (with_reducible exact Ext.refl _) | (with_reducible refine Ext.drew ?_) | (with_reducible refine Ext.drewN ?_ _) | (with_reducible refine Ext.alloc ?_ _) | (with_reducible refine Ext.trans ?_ (by with_reducible assumption))))⟩
end Go.Proofs.YtddghaoejnbkaaaDoor
