/- Contracts and lemmas for the proof of PartsPlay; each theorem states its own conditions. -/
import Derived.Test.YtimchedebcoohaaGreatDoorQPartsPlayad
import Derived.Test.YtimchedebcoohaaGreatDoorQPartsPlayab
import Derived.Lib.SlTrimSet
set_option linter.unusedVariables false
set_option linter.unusedSimpArgs false
/- Contracts and lemmas for the proofs of this seat; each theorem states its own conditions. -/
namespace Go.Proofs.YtimchedebcoohaaGreatDoor
open Go.RowKit
theorem cutOk_key {cuts : List ByteArray} {i : Nat} (hi : i < cuts.length) (h : keyB cuts[i] = false) : cutOk cuts i = false := by simp [cutOk, kAt_eq hi, h]
theorem cutOk_lt {cuts : List ByteArray} {i : Nat} (hi : i + 1 < cuts.length) (h : blt (cuts[i]'(by omega)) cuts[i + 1] = false) : cutOk cuts (i + 1) = false := by simp [cutOk, kAt_eq hi, kAt_eq (show i < cuts.length by omega), h]
theorem cutOk_yes {cuts : List ByteArray} {i : Nat} (hi : i + 1 < cuts.length) (hk : keyB cuts[i + 1] = true) (h : blt (cuts[i]'(by omega)) cuts[i + 1] = true) : cutOk cuts (i + 1) = true := by simp [cutOk, kAt_eq hi, kAt_eq (show i < cuts.length by omega), h, hk]
theorem cutOk_zero {cuts : List ByteArray} (hi : 0 < cuts.length) (hk : keyB cuts[0] = true) : cutOk cuts 0 = true := by simp [cutOk, kAt_eq hi, hk]
theorem mapErr_2 {cuts : List ByteArray} {owners : List Int} (h : 12 < cuts.length) : mapErr cuts owners = 2 := by simp [mapErr, h]
theorem mapErr_3 {cuts : List ByteArray} {owners : List Int} (h : ¬ 12 < cuts.length) (h' : owners.length ≠ cuts.length + 1) : mapErr cuts owners = 3 := by simp [mapErr, h, h']
theorem mapErr_cut {cuts : List ByteArray} {owners : List Int} (h : ¬ 12 < cuts.length) (h' : owners.length = cuts.length + 1) {i : Nat} (hi : i < cuts.length) (hf : cutOk cuts i = false) : mapErr cuts owners = 3 := by
  simp only [mapErr, if_neg h, h', ne_eq, not_true_eq_false, if_false, all_false hi hf]; simp
theorem mapErr_own {cuts : List ByteArray} {owners : List Int} (h : ¬ 12 < cuts.length) (h' : owners.length = cuts.length + 1) (hc : allTo (cutOk cuts) cuts.length) {i : Nat} (hi : i < owners.length) (hf : ownOk owners i = false) : mapErr cuts owners = 1 := by
  unfold mapErr
  rw [if_neg h, if_neg (by simp [h']), if_pos (all_true hc), if_neg (by rw [all_false hi hf]; simp)]
theorem ownOk_no {owners : List Int} {i : Nat} (hi : i < owners.length) (h : owners[i] < 0 ∨ 4 ≤ owners[i]) : ownOk owners i = false := by
  simp [ownOk, hi]; omega
theorem ownOk_yes {owners : List Int} {i : Nat} (hi : i < owners.length) (h : 0 ≤ owners[i]) (h' : owners[i] < 4) : ownOk owners i = true := by
  simp [ownOk, hi]; omega
set_option maxRecDepth 10000 in
set_option maxHeartbeats 400000 in
theorem mcheck_any (v : Value) (cuts : List ByteArray) (owners : List Int) (w : World) (hv : IsMap w v cuts owners) (hk : ∀ k ∈ cuts, k.size ≤ 9223372036854775807) :
    Calls Tryz.prog 29 #[v] w fun e w' => e = .returned (.int .i64 (mapErr cuts owners)) ∧ Ext w w' := by
  obtain ⟨c, o, rfl, h1, h2⟩ := hv
  obtain ⟨h10, a1, k1, rfl, h11, h12, h13⟩ := h1
  obtain ⟨h20, a2, k2, rfl, h21, h22, h23⟩ := h2
  unfold maxLen at h12 h22
  by_cases g1 : 12 < cuts.length
  · go_enter Tryz.func29, Tryz.ntmps29
    go_wp2
    go_ret
    exact ⟨rI (mapErr_2 g1).symm, by (repeat (first | (with_reducible assumption) | (with_reducible exact Ext.refl _) | (with_reducible refine Ext.drew ?_) | (with_reducible refine Ext.drewN ?_ _) | (with_reducible refine Ext.alloc ?_ _) | (with_reducible refine Ext.trans ?_ (by with_reducible assumption))))⟩
  by_cases g2 : owners.length = cuts.length + 1
  case neg =>
    have q : ((owners.length : Int) != (cuts.length : Int) + 1) = true := by rw [bne_iff_ne]; omega
    go_enter Tryz.func29, Tryz.ntmps29
    go_wp2
    go_ret
    exact ⟨rI (mapErr_3 g1 g2).symm, by (repeat (first | (with_reducible assumption) | (with_reducible exact Ext.refl _) | (with_reducible refine Ext.drew ?_) | (with_reducible refine Ext.drewN ?_ _) | (with_reducible refine Ext.alloc ?_ _) | (with_reducible refine Ext.trans ?_ (by with_reducible assumption))))⟩
  have q : ((owners.length : Int) != (cuts.length : Int) + 1) = false := by simp; omega
  have G2 := (show Hid (owners.length = cuts.length + 1) from g2)
  clear g2
  go_enter Tryz.func29, Tryz.ntmps29
  go_wp2
  go_loop [2, 3, 4, 22] (fun r _ _ i => ∃ k : Nat, k ≤ cuts.length ∧ i = .int .i64 k ∧ r = .int .i64 0 ∧ allTo (cutOk cuts) k) (fun _ _ _ i => cuts.length - (intOf i).toNat)
  case atStart => exact ⟨0, Nat.zero_le _, rfl, rfl, allTo_zero _⟩
  case round =>
    obtain ⟨k, hkl, rfl, rfl, hall⟩ := hrel
    by_cases hlt : k < cuts.length
    · obtain ⟨b, off, rfl, hc⟩ := h13 (by omega)
      have c1 := cell1 (hc _ _ (cS_at0 cuts k hlt))
      have hsz := hk cuts[k] (List.getElem_mem hlt)
      cases hkey : keyB cuts[k] with
      | false =>
        go_wp2_with fail
        refine (key_any _ _ hsz).mono ?_
        rintro e w' ⟨rfl, rfl⟩
        go_wp2
        go_ret
        exact ⟨rI (mapErr_cut g1 G2.out hlt (cutOk_key hlt hkey)).symm, by (repeat (first | (with_reducible assumption) | (with_reducible exact Ext.refl _) | (with_reducible refine Ext.drew ?_) | (with_reducible refine Ext.drewN ?_ _) | (with_reducible refine Ext.alloc ?_ _) | (with_reducible refine Ext.trans ?_ (by with_reducible assumption))))⟩
      | true =>
        cases k with
        | zero =>
          have hs := allTo_succ hall (cutOk_zero hlt hkey)
          simp only [Nat.add_zero] at c1
          clear hc h13
          go_wp2_with fail
          refine (key_any _ _ hsz).mono ?_
          rintro e w' ⟨rfl, rfl⟩
          go_wp2
          go_round
          case rel => exact ⟨1, by omega, by go_num, rfl, hs⟩
          case measure => simp [intOf]; omega
        | succ k =>
          have c2 := cell1 (hc _ _ (cS_at0 cuts k (by omega)))
          clear hc h13
          cases hb : blt (cuts[k]'(by omega)) cuts[k + 1] with
          | false =>
            have hb' : Op.bytesLess (cuts[k]'(by omega)).toList cuts[k + 1].toList = false := hb
            go_wp2_with fail
            refine (key_any _ _ hsz).mono ?_
            rintro e w' ⟨rfl, rfl⟩
            go_wp2
            go_ret
            exact ⟨rI (mapErr_cut g1 G2.out hlt (cutOk_lt hlt hb)).symm, by (repeat (first | (with_reducible assumption) | (with_reducible exact Ext.refl _) | (with_reducible refine Ext.drew ?_) | (with_reducible refine Ext.drewN ?_ _) | (with_reducible refine Ext.alloc ?_ _) | (with_reducible refine Ext.trans ?_ (by with_reducible assumption))))⟩
          | true =>
            have hb' : Op.bytesLess (cuts[k]'(by omega)).toList cuts[k + 1].toList = true := hb
            have hs := allTo_succ hall (cutOk_yes hlt hkey hb)
            go_wp2_with fail
            refine (key_any _ _ hsz).mono ?_
            rintro e w' ⟨rfl, rfl⟩
            go_wp2
            go_round
            case rel => exact ⟨k + 1 + 1, by omega, by go_num, rfl, hs⟩
            case measure => simp [intOf]; omega
    · obtain rfl : k = cuts.length := by omega
      go_wp2
      go_loop [2, 6, 48] (fun r _ i => ∃ k : Nat, k ≤ owners.length ∧ i = .int .i64 k ∧ r = .int .i64 0 ∧ allTo (ownOk owners) k) (fun _ _ i => owners.length - (intOf i).toNat)
      case atStart => exact ⟨0, Nat.zero_le _, rfl, rfl, allTo_zero _⟩
      case round =>
        obtain ⟨k, hkl, rfl, rfl, hall2⟩ := hrel
        by_cases hlt2 : k < owners.length
        · obtain ⟨b, off, rfl, hc⟩ := h23 (by omega)
          have c1 := cell1 (hc _ _ (cI_at0 owners k hlt2))
          clear hc h23
          by_cases ho : owners[k] < 0 ∨ 4 ≤ owners[k]
          · have hno := ownOk_no hlt2 ho
            rcases ho with ho | ho
            all_goals
              go_wp2
              all_goals
                go_ret
                exact ⟨rI (mapErr_own g1 G2.out hall hlt2 hno).symm, by (repeat (first | (with_reducible assumption) | (with_reducible exact Ext.refl _) | (with_reducible refine Ext.drew ?_) | (with_reducible refine Ext.drewN ?_ _) | (with_reducible refine Ext.alloc ?_ _) | (with_reducible refine Ext.trans ?_ (by with_reducible assumption))))⟩
          · have hs := allTo_succ hall2 (ownOk_yes hlt2 (by omega) (by omega))
            have ho1 : 0 ≤ owners[k] := by omega
            have ho2 : owners[k] < 4 := by omega
            clear ho
            go_wp2
            go_round
            case rel => exact ⟨k + 1, by omega, by go_num, rfl, hs⟩
            case measure => simp [intOf]; omega
        · obtain rfl : k = owners.length := by omega
          go_wp2
          go_ret
          exact ⟨rI (mapErr_ok ⟨by omega, G2.out, hall, hall2⟩).symm, by (repeat (first | (with_reducible assumption) | (with_reducible exact Ext.refl _) | (with_reducible refine Ext.drew ?_) | (with_reducible refine Ext.drewN ?_ _) | (with_reducible refine Ext.alloc ?_ _) | (with_reducible refine Ext.trans ?_ (by with_reducible assumption))))⟩
end Go.Proofs.YtimchedebcoohaaGreatDoor

/- Contracts and lemmas for the proofs of this seat; each theorem states its own conditions. -/
namespace Go.Proofs.YtimchedebcoohaaGreatDoor
open Go.RowKit
/-! the document's Key, Map, Whose -/
theorem rwithin_any (x a b : Int) (w : World) : Calls Tryz.prog 36 #[.int .i64 x, .int .i64 a, .int .i64 b] w fun e w' => e = .returned (.bool (decide (a ≤ x) && decide (x ≤ b))) ∧ w' = w := by
  by_cases h1 : a ≤ x
  · have d1 : decide (a ≤ x) = true := by simp [h1]
    have d2 : decide (x ≥ a) = true := by simp; omega
    go_enter Tryz.func36, Tryz.ntmps36
    go_wp2
    go_ret
    exact ⟨rB (by simp [h1]), rfl⟩
  · have d1 : decide (a ≤ x) = false := by simp; omega
    have d2 : decide (x ≥ a) = false := by simp; omega
    have d3 : ¬ (x ≥ a) := by omega
    go_enter Tryz.func36, Tryz.ntmps36
    go_wp2
    go_ret
    exact ⟨rB (by simp [h1]), rfl⟩
def alphaB : List UInt8 := [97, 98, 99, 100, 101, 102, 103, 104, 105, 106, 107, 108, 109, 110, 111, 112, 113, 114, 115, 116, 117, 118, 119, 120, 121, 122]
theorem alpha_let (c : UInt8) : alphaB.contains c = letB c := by
  have h : ∀ n : Fin 256, alphaB.contains (UInt8.ofNat n.val) = letB (UInt8.ofNat n.val) := by decide +kernel
  have := h ⟨c.toNat, c.toNat_lt⟩
  simpa using this
theorem dropWhile_nil {α : Type} {p : α → Bool} : ∀ {l : List α}, l.dropWhile p = [] ↔ l.all p = true
  | [] => by simp
  | x :: l => by
    rw [List.dropWhile_cons, List.all_cons]
    cases h : p x
    · simp
    · simp [dropWhile_nil (l := l)]
theorem all_rev {α : Type} (p : α → Bool) (l : List α) : l.reverse.all p = l.all p := by
  rw [Bool.eq_iff_iff, List.all_eq_true, List.all_eq_true]; simp
theorem drop_sub {α : Type} (p : α → Bool) : ∀ (l : List α), (l.dropWhile p).all p = l.all p
  | [] => rfl
  | x :: l => by
    rw [List.dropWhile_cons]
    cases h : p x
    · simp
    · simp [h, drop_sub p l]
theorem trim_nil (l cs : List UInt8) : Lib.trimS l cs = [] ↔ l.all (cs.contains ·) = true := by
  unfold Lib.trimS Lib.trimLeftS Lib.trimRightS
  rw [dropWhile_nil, all_rev, drop_sub, all_rev]
theorem key_trim {s : ByteArray} (h1 : 1 ≤ s.size) (h2 : s.size ≤ 6) : keyB s = decide (Lib.trimS s.data.toList alphaB = []) := by
  rw [Bool.eq_iff_iff, decide_eq_true_eq, trim_nil]
  have hne : s.toList.isEmpty = false := by
    have := size_toList s
    cases e : s.toList with
    | nil => rw [e] at this; simp at this; omega
    | cons a l => rfl
  have hal : s.toList.all letB = s.data.toList.all (alphaB.contains ·) := by
    rw [toList_data]; congr 1; funext c; exact (alpha_let c).symm
  simp [keyB, hne, h2, hal]
theorem info116 : (Tryz.prog.info? 127).map (fun i => (i.zero, i.size)) = some (some (.agg (Array.replicate 256 (.bool false))), 256) := by kernel_rfl
set_option maxRecDepth 10000 in
theorem rkey_any (s : ByteArray) (w : World) (hs : s.size ≤ 9223372036854775807) : Calls Tryz.prog 33 #[.string s] w fun e w' => e = .returned (.bool (keyB s)) ∧ Ext w w' := by
  have WI := hid (rwithin_any (s.size : Int) 1 6 w)
  by_cases h : 1 ≤ s.size ∧ s.size ≤ 6
  · obtain ⟨h1, h2⟩ := h
    have TR0 : Calls Tryz.prog 58 #[.string s, .string ⟨#[97, 98, 99, 100, 101, 102, 103, 104, 105, 106, 107, 108, 109, 110, 111, 112, 113, 114, 115, 116, 117, 118, 119, 120, 121, 122]⟩] w fun e w' => e = .returned (.string ⟨(Lib.trimS s.data.toList alphaB).toArray⟩) ∧ Ext w w' := Go.Proofs.Any.strings_Trim_laid lays160 info116 s ⟨alphaB.toArray⟩ w hs (by decide) (ascii_of_all (by decide))
    have hk0 := key_trim h1 h2
    generalize Lib.trimS s.data.toList alphaB = T at TR0 hk0
    have TR := hid TR0
    have hk := hid hk0
    clear TR0 hk0
    have q1 : decide ((1 : Int) ≤ (s.size : Int)) = true := by simp; omega
    have q2 : decide ((s.size : Int) ≤ 6) = true := by simp; omega
    go_enter Tryz.func33, Tryz.ntmps33
    go_wp2_with fail
    refine (WI.out).mono ?_
    rintro e w' ⟨rfl, rfl⟩
    cases T with
    | nil =>
      have TR2 := hid TR.out
      go_wp2_with fail
      refine (TR2.out).mono ?_
      rintro e w1 ⟨rfl, E1⟩
      go_wp2
      go_ret
      exact ⟨rB (by rw [hk.out]; rfl), E1⟩
    | cons x T =>
      have TR2 := hid TR.out
      obtain ⟨str, hstr⟩ : ∃ str : ByteArray, (⟨(x :: T).toArray⟩ : ByteArray) = str := ⟨_, rfl⟩
      have hne : ¬ str.toList = [] := by rw [← hstr, toList_data]; simp
      have hne2 : str.toList.isEmpty = false := by simpa using hne
      go_wp2_with fail
      refine (TR2.out).mono ?_
      rw [hstr]
      rintro e w1 ⟨rfl, E1⟩
      go_wp2
      go_ret
      exact ⟨rB (by rw [hk.out]; simp), E1⟩
  · have hk : keyB s = false := by
      by_cases h1 : s.size ≤ 6
      · have : s.toList = [] := by have := size_toList s; exact List.eq_nil_of_length_eq_zero (by omega)
        exact key_false1 this
      · exact key_false2 (by omega)
    have q : (decide ((1 : Int) ≤ (s.size : Int)) && decide ((s.size : Int) ≤ 6)) = false := by simp; omega
    rw [q] at WI
    have WI2 := hid WI.out
    go_enter Tryz.func33, Tryz.ntmps33
    go_wp2_with fail
    refine (WI2.out).mono ?_
    rintro e w' ⟨rfl, rfl⟩
    go_wp2
    go_ret
    exact ⟨rB hk.symm, Ext.refl _⟩
end Go.Proofs.YtimchedebcoohaaGreatDoor

/- Contracts and lemmas for the proofs of this seat; each theorem states its own conditions. -/
namespace Go.Proofs.YtimchedebcoohaaGreatDoor
open Go.RowKit
theorem rmap1_any (n : Int) (w : World) : Calls Tryz.prog 35 #[.int .i64 n] w fun e w' => e = .returned (.bool (!(decide (0 ≤ n) && decide (n ≤ 3)))) ∧ Ext w w' := by
  have WI := hid (rwithin_any n 0 3 w)
  generalize (decide (0 ≤ n) && decide (n ≤ 3)) = b at WI ⊢
  go_enter Tryz.func35, Tryz.ntmps35
  go_wp2_with fail
  refine (WI.out).mono ?_
  rintro e w' ⟨rfl, rfl⟩
  go_wp2
  go_ret
  exact ⟨rfl, Ext.refl _⟩
theorem enMap1 : ∀ args w, (callFunc 35 args).run Tryz.prog w = .ok (.enter 35 args) w := enters_of Tryz.func35 (by kernel_rfl) rfl
/-- the key ahead of the k-th one -/
def prevS (C : List ByteArray) (k : Nat) : ByteArray := if k = 0 then ⟨#[]⟩ else C.getD (k - 1) ⟨#[]⟩
theorem prevS_succ {C : List ByteArray} {k : Nat} (h : k < C.length) : prevS C (k + 1) = C[k] := by simp [prevS, h]
theorem blt_empty {s : ByteArray} (h : keyB s = true) : blt ⟨#[]⟩ s = true := by
  have h1 : ¬ s.toList = [] := by simp [keyB] at h; simpa using h.1.1
  unfold blt
  cases e : s.toList with
  | nil => exact absurd e h1
  | cons a l =>
    have : (⟨#[]⟩ : ByteArray).toList = [] := by rw [toList_data]
    rw [this]; rfl
theorem cut_prev {C : List ByteArray} {k : Nat} (h : k < C.length) : cutOk C k = (keyB C[k] && blt (prevS C k) C[k]) := by
  cases hk : keyB C[k] with
  | false => rw [cutOk_key h hk]; rfl
  | true =>
    cases k with
    | zero => rw [cutOk_zero h hk]; simp [prevS, blt_empty hk]
    | succ k =>
      rw [prevS_succ (show k < C.length by omega)]
      cases hb : blt (C[k]'(by omega)) C[k + 1] with
      | false => rw [cutOk_lt h hb]; rfl
      | true => rw [cutOk_yes h hk hb]; rfl
theorem own_any (O : List Int) : (List.range O.length).all (ownOk O) = !(O.any fun n => !(decide (0 ≤ n) && decide (n ≤ 3))) := by
  rw [Bool.eq_iff_iff]
  simp only [List.all_eq_true, List.mem_range, Bool.not_eq_true', List.any_eq_false]
  constructor
  · intro h x hx
    obtain ⟨i, hi, rfl⟩ := List.mem_iff_getElem.1 hx
    have := h i hi
    simp [ownOk, hi] at this
    simp; omega
  · intro h i hi
    have := h O[i] (List.getElem_mem hi)
    simp at this
    simp [ownOk, hi]; omega
theorem allTo_snoc {p : Nat → Bool} {k : Nat} (h : allTo p k) (hk : p k = true) : allTo p (k + 1) := fun j hj => by
  rcases Nat.lt_or_ge j k with h' | h'
  · exact h j h'
  · have : j = k := by omega
    subst this; exact hk
set_option maxRecDepth 10000 in
set_option maxHeartbeats 1000000 in
theorem rmap_any (v : Value) (C : List ByteArray) (O : List Int) (w : World) (hv : IsMap w v C O) (hk : ∀ k ∈ C, k.size ≤ 9223372036854775807) :
    Calls Tryz.prog 6 #[v] w fun e w' => e = .returned (.int .i64 (mapErr C O)) ∧ Ext w w' := by
  obtain ⟨a1, k1, a2, k2, rfl, m1, m2⟩ := hv.unpack
  have b0 := heap_alloc_new w (.cells #[.slice a1 C.length k1, .slice a2 O.length k2] 25)
  have E0 := (Ext.refl w).alloc (.cells #[.slice a1 C.length k1, .slice a2 O.length k2] 25)
  have x := blk2 b0
  have l1 : C.length ≤ 9223372036854775807 := by obtain ⟨_, _, _, e, h1, h2, _⟩ := m1; injection e with _ _ e3; subst e3; unfold maxLen at h2; omega
  have l2 : O.length ≤ 9223372036854775807 := by obtain ⟨_, _, _, e, h1, h2, _⟩ := m2; injection e with _ _ e3; subst e3; unfold maxLen at h2; omega
  have M1 := hid m1
  have M2 := hid m2
  have B0 := hid b0
  clear m1 m2 hv b0
  by_cases h12 : 12 < C.length
  · have q : ((C.length : Int) > 12) := by omega
    go_enter Tryz.func6, Tryz.ntmps6
    go_wp2
    go_ret
    exact ⟨rI (mapErr_2 h12).symm, E0⟩
  have q12 : ¬ ((C.length : Int) > 12) := by omega
  by_cases hl : O.length = C.length + 1
  case neg =>
    have q : (((O.length : Int) - (C.length : Int)) != 1) = true := by simp; omega
    have hr := hid (mapErr_3 h12 hl)
    go_enter Tryz.func6, Tryz.ntmps6
    go_wp2
    go_ret
    exact ⟨rI hr.out.symm, E0⟩
  have q : (((O.length : Int) - (C.length : Int)) != 1) = false := by simp; omega
  have HL := hid hl
  clear hl
  go_enter Tryz.func6, Tryz.ntmps6
  go_wp2_with fail
  go_loopw [3, 5, 21] (fun lv _ iv wr => ∃ k : Nat, k ≤ C.length ∧ iv = .int .i64 k ∧ lv = .string (prevS C k) ∧ allTo (cutOk C) k ∧ Ext (w.alloc (.cells #[.slice a1 C.length k1, .slice a2 O.length k2] 25)) wr) (fun _ _ iv _ => C.length - (intOf iv).toNat)
  case atStart => exact ⟨0, Nat.zero_le _, rfl, rfl, fun j h => absurd h (by omega), Ext.refl _⟩
  case round =>
    obtain ⟨wo, rfl⟩ : ∃ wo : World, wo = wr := ⟨_, rfl⟩
    obtain ⟨k, hk', rfl, rfl, hall, E⟩ := hrel
    have HA := hid hall
    clear hall
    by_cases hlt : k < C.length
    · obtain ⟨b, off, rfl, _, n1, n2, hc⟩ := seg_cells M1.out (by omega)
      have c0 := E.cell (E0.cell (hc k _ (cS_at0 C k hlt)))
      have hsz := hk _ (List.getElem_mem hlt)
      have RK := hid (rkey_any C[k] wo hsz)
      have hcp := hid (cut_prev hlt)
      have hps := hid (prevS_succ hlt)
      unfold maxLen at n2
      generalize prevS C k = lst at hcp ⊢
      generalize C[k] = key at c0 RK hcp hps hsz
      cases hkb : keyB key with
      | false =>
        rw [hkb] at RK hcp
        have RK2 := hid RK.out
        have hr := hid (mapErr_cut h12 HL.out hlt (show cutOk C k = false by rw [hcp.out]; rfl))
        go_wp2_with fail
        refine (RK2.out).mono ?_
        rintro e w' ⟨rfl, E'⟩
        go_wp2
        go_ret
        exact ⟨rI hr.out.symm, E0.trans (E.trans E')⟩
      | true =>
        rw [hkb] at RK hcp
        have RK2 := hid RK.out
        cases hb : blt lst key with
        | false =>
          have hr := hid (mapErr_cut h12 HL.out hlt (show cutOk C k = false by rw [hcp.out, hb]; rfl))
          cases hb2 : blt key lst with
          | true =>
            have hb3 : Op.bytesLess key.toList lst.toList = true := hb2
            clear hb hb2
            go_wp2_with fail
            refine (RK2.out).mono ?_
            rintro e w' ⟨rfl, E'⟩
            go_wp2
            go_ret
            exact ⟨rI hr.out.symm, E0.trans (E.trans E')⟩
          | false =>
            have hb3 : Op.bytesLess key.toList lst.toList = false := hb2
            have hb4 : (key.toList == lst.toList) = true := by
              rcases bl_tri key.toList lst.toList with h | h | h
              · rw [hb3] at h; cases h
              · simpa using h
              · have h' : blt lst key = true := h
                rw [hb] at h'; cases h'
            have hb5 : key.toList = lst.toList := by simpa using hb4
            clear hb hb2
            go_wp2_with fail
            refine (RK2.out).mono ?_
            rintro e w' ⟨rfl, E'⟩
            go_wp2
            go_ret
            exact ⟨rI hr.out.symm, E0.trans (E.trans E')⟩
        | true =>
          have hb3 : Op.bytesLess key.toList lst.toList = false := blt_asymm hb
          have hb4 : (key.toList == lst.toList) = false := by
            cases h : (key.toList == lst.toList) with
            | false => rfl
            | true =>
              have h' : key = lst := toList_inj (by simpa using h)
              rw [h', blt_irrefl] at hb; cases hb
          have hb5 : ¬ key.toList = lst.toList := by simpa using hb4
          have hst := hid (show cutOk C k = true by rw [hcp.out, hb]; rfl)
          go_wp2_with fail
          refine (RK2.out).mono ?_
          rintro e w' ⟨rfl, E'⟩
          go_wp2
          go_roundw
          case rel => exact ⟨k + 1, by omega, by go_num, by rw [hps.out], allTo_snoc HA.out hst.out, E.trans E'⟩
          case measure => simp [intOf] <;> omega
    · obtain rfl : k = C.length := by omega
      have xx := blk2 (E.heap B0.out)
      have CF := hid (containsF_Int 35 #[] enMap1 (fun n => !(decide (0 ≤ n) && decide (n ≤ 3))) (.slice a2 O.length k2) O wo ((M2.out.ext E0).ext E) (fun x _ w' _ => rmap1_any x w'))
      have ho := hid (own_any O)
      have hr := hid (show mapErr C O = if (O.any fun n => !(decide (0 ≤ n) && decide (n ≤ 3))) = true then 1 else 0 by
        unfold mapErr
        rw [if_neg h12, if_neg (by simp [HL.out]), if_pos (all_true HA.out), own_any]
        cases (O.any fun n => !(decide (0 ≤ n) && decide (n ≤ 3))) <;> rfl)
      generalize (O.any fun n => !(decide (0 ≤ n) && decide (n ≤ 3))) = ob at CF ho hr
      go_wp2_with fail
      refine (CF.out).mono ?_
      rintro e w' ⟨rfl, E'⟩
      cases ob with
      | true =>
        go_wp2
        go_ret
        exact ⟨rI (by rw [hr.out]; rfl), E0.trans (E.trans E')⟩
      | false =>
        go_wp2
        go_ret
        exact ⟨rI (by rw [hr.out]; rfl), E0.trans (E.trans E')⟩
end Go.Proofs.YtimchedebcoohaaGreatDoor
