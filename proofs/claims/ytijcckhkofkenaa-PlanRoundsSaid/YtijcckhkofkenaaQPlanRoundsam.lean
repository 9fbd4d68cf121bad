/- Contracts and lemmas for the proof of PlanRounds; each theorem states its own conditions. -/
import Derived.Test.YtijcckhkofkenaaQPlanRoundsal
import Derived.Test.YtijcckhkofkenaaQPlanRoundsah
set_option linter.unusedVariables false
set_option linter.unusedSimpArgs false
/- Contracts and lemmas for the proofs of this seat; each theorem states its own conditions. -/
namespace Go.Proofs.Ytijcckhkofkenaa
open Go.RowKit
theorem cutOk_key {cuts : List ByteArray} {i : Nat} (hi : i < cuts.length) (h : keyB cuts[i] = false) : cutOk cuts i = false := by simp [cutOk, kAt_eq hi, h]
theorem cutOk_lt {cuts : List ByteArray} {i : Nat} (hi : i + 1 < cuts.length) (h : blt (cuts[i]'(by omega)) cuts[i + 1] = false) : cutOk cuts (i + 1) = false := by simp [cutOk, kAt_eq hi, kAt_eq (show i < cuts.length by omega), h]
theorem cutOk_yes {cuts : List ByteArray} {i : Nat} (hi : i + 1 < cuts.length) (hk : keyB cuts[i + 1] = true) (h : blt (cuts[i]'(by omega)) cuts[i + 1] = true) : cutOk cuts (i + 1) = true := by simp [cutOk, kAt_eq hi, kAt_eq (show i < cuts.length by omega), h, hk]
theorem cutOk_zero {cuts : List ByteArray} (hi : 0 < cuts.length) (hk : keyB cuts[0] = true) : cutOk cuts 0 = true := by simp [cutOk, kAt_eq hi, hk]
theorem mapErr_2 {cuts : List ByteArray} {owners : List Int} (h : 12 < cuts.length) : mapErr cuts owners = 2 := by simp [mapErr, h]
theorem mapErr_3 {cuts : List ByteArray} {owners : List Int} (h : ¬ 12 < cuts.length) (h' : owners.length ≠ cuts.length + 1) : mapErr cuts owners = 3 := by simp [mapErr, h, h']
theorem mapErr_cut {cuts : List ByteArray} {owners : List Int} (h : ¬ 12 < cuts.length) (h' : owners.length = cuts.length + 1) {i : Nat} (hi : i < cuts.length) (hf : cutOk cuts i = false) : mapErr cuts owners = 3 := by
  simp only [mapErr, if_neg h, h', ne_eq, not_true_eq_false, if_false, all_false hi hf]; simp
theorem mapErr_own {cuts : List ByteArray} {owners : List Int} (h : ¬ 12 < cuts.length) (h' : owners.length = cuts.length + 1) (hc : allTo (cutOk cuts) cuts.length) {i : Nat} (hi : i < owners.length) (hf : ownOk owners i = false) : mapErr cuts owners = 1 := by
  unfold mapErr
  rw [if_neg h, if_neg (by simp [h']), if_pos (all_true hc), if_neg (by rw [all_false hi hf]; simp)]
theorem ownOk_no {owners : List Int} {i : Nat} (hi : i < owners.length) (h : owners[i] < 0 ∨ 4 ≤ owners[i]) : ownOk owners i = false := by
  simp [ownOk, hi]; omega
theorem ownOk_yes {owners : List Int} {i : Nat} (hi : i < owners.length) (h : 0 ≤ owners[i]) (h' : owners[i] < 4) : ownOk owners i = true := by
  simp [ownOk, hi]; omega
set_option maxRecDepth 10000 in
set_option maxHeartbeats 400000 in
theorem mcheck_any (v : Value) (cuts : List ByteArray) (owners : List Int) (w : World) (hv : IsMap w v cuts owners) (hk : ∀ k ∈ cuts, k.size ≤ 9223372036854775807) :
    Calls Try.prog 45 #[v] w fun e w' => e = .returned (.int .i64 (mapErr cuts owners)) ∧ Ext w w' := by
  obtain ⟨c, o, rfl, h1, h2⟩ := hv
  obtain ⟨h10, a1, k1, rfl, h11, h12, h13⟩ := h1
  obtain ⟨h20, a2, k2, rfl, h21, h22, h23⟩ := h2
  unfold maxLen at h12 h22
  by_cases g1 : 12 < cuts.length
  · go_enter Try.func45, Try.ntmps45
    go_wp2
    go_ret
    exact ⟨rI (mapErr_2 g1).symm, by (repeat (first | (with_reducible assumption) | (with_reducible exact Ext.refl _) | (with_reducible refine Ext.drew ?_) | (with_reducible refine Ext.drewN ?_ _) | (with_reducible refine Ext.alloc ?_ _) | (with_reducible refine Ext.trans ?_ (by with_reducible assumption))))⟩
  by_cases g2 : owners.length = cuts.length + 1
  case neg =>
    have q : ((owners.length : Int) != (cuts.length : Int) + 1) = true := by rw [bne_iff_ne]; omega
    go_enter Try.func45, Try.ntmps45
    go_wp2
    go_ret
    exact ⟨rI (mapErr_3 g1 g2).symm, by (repeat (first | (with_reducible assumption) | (with_reducible exact Ext.refl _) | (with_reducible refine Ext.drew ?_) | (with_reducible refine Ext.drewN ?_ _) | (with_reducible refine Ext.alloc ?_ _) | (with_reducible refine Ext.trans ?_ (by with_reducible assumption))))⟩
  have q : ((owners.length : Int) != (cuts.length : Int) + 1) = false := by simp; omega
  have G2 := (show Hid (owners.length = cuts.length + 1) from g2)
  clear g2
  go_enter Try.func45, Try.ntmps45
  go_wp2
  go_loop [2, 3, 4, 22] (fun r _ _ i => ∃ k : Nat, k ≤ cuts.length ∧ i = .int .i64 k ∧ r = .int .i64 0 ∧ allTo (cutOk cuts) k) (fun _ _ _ i => cuts.length - (intOf i).toNat)
  case atStart => exact ⟨0, Nat.zero_le _, rfl, rfl, allTo_zero _⟩
  case round =>
    obtain ⟨k, hkl, rfl, rfl, hall⟩ := hrel
    by_cases hlt : k < cuts.length
    · obtain ⟨b, off, rfl, hc⟩ := h13 (by omega)
      have c1 := cell1 (hc _ _ (cS_at0 cuts k hlt))
      have hsz := hk cuts[k] (List.getElem_mem hlt)
      cases hkey : keyB cuts[k] with
      | false =>
        go_wp2_with fail
        refine (key_any _ _ hsz).mono ?_
        rintro e w' ⟨rfl, rfl⟩
        go_wp2
        go_ret
        exact ⟨rI (mapErr_cut g1 G2.out hlt (cutOk_key hlt hkey)).symm, by (repeat (first | (with_reducible assumption) | (with_reducible exact Ext.refl _) | (with_reducible refine Ext.drew ?_) | (with_reducible refine Ext.drewN ?_ _) | (with_reducible refine Ext.alloc ?_ _) | (with_reducible refine Ext.trans ?_ (by with_reducible assumption))))⟩
      | true =>
        cases k with
        | zero =>
          have hs := allTo_succ hall (cutOk_zero hlt hkey)
          simp only [Nat.add_zero] at c1
          clear hc h13
          go_wp2_with fail
          refine (key_any _ _ hsz).mono ?_
          rintro e w' ⟨rfl, rfl⟩
          go_wp2
          go_round
          case rel => exact ⟨1, by omega, by go_num, rfl, hs⟩
          case measure => simp [intOf]; omega
        | succ k =>
          have c2 := cell1 (hc _ _ (cS_at0 cuts k (by omega)))
          clear hc h13
          cases hb : blt (cuts[k]'(by omega)) cuts[k + 1] with
          | false =>
            have hb' : Op.bytesLess (cuts[k]'(by omega)).toList cuts[k + 1].toList = false := hb
            go_wp2_with fail
            refine (key_any _ _ hsz).mono ?_
            rintro e w' ⟨rfl, rfl⟩
            go_wp2
            go_ret
            exact ⟨rI (mapErr_cut g1 G2.out hlt (cutOk_lt hlt hb)).symm, by (repeat (first | (with_reducible assumption) | (with_reducible exact Ext.refl _) | (with_reducible refine Ext.drew ?_) | (with_reducible refine Ext.drewN ?_ _) | (with_reducible refine Ext.alloc ?_ _) | (with_reducible refine Ext.trans ?_ (by with_reducible assumption))))⟩
          | true =>
            have hb' : Op.bytesLess (cuts[k]'(by omega)).toList cuts[k + 1].toList = true := hb
            have hs := allTo_succ hall (cutOk_yes hlt hkey hb)
            go_wp2_with fail
            refine (key_any _ _ hsz).mono ?_
            rintro e w' ⟨rfl, rfl⟩
            go_wp2
            go_round
            case rel => exact ⟨k + 1 + 1, by omega, by go_num, rfl, hs⟩
            case measure => simp [intOf]; omega
    · obtain rfl : k = cuts.length := by omega
      go_wp2
      go_loop [2, 6, 48] (fun r _ i => ∃ k : Nat, k ≤ owners.length ∧ i = .int .i64 k ∧ r = .int .i64 0 ∧ allTo (ownOk owners) k) (fun _ _ i => owners.length - (intOf i).toNat)
      case atStart => exact ⟨0, Nat.zero_le _, rfl, rfl, allTo_zero _⟩
      case round =>
        obtain ⟨k, hkl, rfl, rfl, hall2⟩ := hrel
        by_cases hlt2 : k < owners.length
        · obtain ⟨b, off, rfl, hc⟩ := h23 (by omega)
          have c1 := cell1 (hc _ _ (cI_at0 owners k hlt2))
          clear hc h23
          by_cases ho : owners[k] < 0 ∨ 4 ≤ owners[k]
          · have hno := ownOk_no hlt2 ho
            rcases ho with ho | ho
            all_goals
              go_wp2
              all_goals
                go_ret
                exact ⟨rI (mapErr_own g1 G2.out hall hlt2 hno).symm, by (repeat (first | (with_reducible assumption) | (with_reducible exact Ext.refl _) | (with_reducible refine Ext.drew ?_) | (with_reducible refine Ext.drewN ?_ _) | (with_reducible refine Ext.alloc ?_ _) | (with_reducible refine Ext.trans ?_ (by with_reducible assumption))))⟩
          · have hs := allTo_succ hall2 (ownOk_yes hlt2 (by omega) (by omega))
            have ho1 : 0 ≤ owners[k] := by omega
            have ho2 : owners[k] < 4 := by omega
            clear ho
            go_wp2
            go_round
            case rel => exact ⟨k + 1, by omega, by go_num, rfl, hs⟩
            case measure => simp [intOf]; omega
        · obtain rfl : k = owners.length := by omega
          go_wp2
          go_ret
          exact ⟨rI (mapErr_ok ⟨by omega, G2.out, hall, hall2⟩).symm, by (repeat (first | (with_reducible assumption) | (with_reducible exact Ext.refl _) | (with_reducible refine Ext.drew ?_) | (with_reducible refine Ext.drewN ?_ _) | (with_reducible refine Ext.alloc ?_ _) | (with_reducible refine Ext.trans ?_ (by with_reducible assumption))))⟩
end Go.Proofs.Ytijcckhkofkenaa

/- Contracts and lemmas for the proofs of this seat; each theorem states its own conditions. -/
namespace Go.Proofs.Ytijcckhkofkenaa
open Go.RowKit
def findV (cuts : List ByteArray) (owners : List Int) (key : ByteArray) : Int := if mapErr cuts owners = 0 ∧ keyB key = true then whose cuts owners key else 0
def findE (cuts : List ByteArray) (owners : List Int) (key : ByteArray) : Int := if mapErr cuts owners ≠ 0 then mapErr cuts owners else if keyB key then 0 else 3
set_option maxRecDepth 10000 in
theorem find_any (v : Value) (cuts : List ByteArray) (owners : List Int) (key : ByteArray) (w : World) (hv : IsMap w v cuts owners) (hk : ∀ k ∈ cuts, k.size ≤ 9223372036854775807) (hks : key.size ≤ 9223372036854775807) :
    Calls Try.prog 26 #[v, .string key] w fun e w' => e = .returned (.tuple #[.int .i64 (findV cuts owners key), .int .i64 (findE cuts owners key)]) ∧ Ext w w' := by
  have hv0 := hv
  obtain ⟨c, o, rfl, h1, h2⟩ := hv
  have hb0 : (w.alloc (.cells #[c, o] 26)).heap[w.heap.size]? = some (.cells #[c, o] 26 (0, 0)) := heap_alloc_new w _
  by_cases g1 : mapErr cuts owners = 0
  · have q : (mapErr cuts owners != 0) = false := by simp [g1]
    have ok := ok_of_mapErr g1
    have hf := ok.few
    cases g2 : keyB key with
    | false =>
      have e1 : findV cuts owners key = 0 := by simp [findV, g2]
      have e2 : findE cuts owners key = 3 := by simp [findE, g1, g2]
      have G1 := (show Hid (mapErr cuts owners = 0) from g1)
      clear g1
      have E1 := (show Hid (findV cuts owners key = 0 ∧ findE cuts owners key = 3) from ⟨e1, e2⟩)
      clear e1 e2
      go_enter Try.func26, Try.ntmps26
      go_wp2_with fail
      refine (mcheck_any _ cuts owners _ (hv0.ext (by (repeat (first | (with_reducible assumption) | (with_reducible exact Ext.refl _) | (with_reducible refine Ext.drew ?_) | (with_reducible refine Ext.drewN ?_ _) | (with_reducible refine Ext.alloc ?_ _) | (with_reducible refine Ext.trans ?_ (by with_reducible assumption)))))) hk).mono ?_
      rintro e w1 ⟨rfl, he1⟩
      have hb := blk2 (he1.heap hb0)
      go_wp2_with fail
      refine (key_any _ _ hks).mono ?_
      rintro e w' ⟨rfl, rfl⟩
      go_wp2
      go_ret2
      exact ⟨rT2 (vI E1.out.1.symm) (vI E1.out.2.symm), by (repeat (first | (with_reducible assumption) | (with_reducible exact Ext.refl _) | (with_reducible refine Ext.drew ?_) | (with_reducible refine Ext.drewN ?_ _) | (with_reducible refine Ext.alloc ?_ _) | (with_reducible refine Ext.trans ?_ (by with_reducible assumption))))⟩
    | true =>
      have e1 : findV cuts owners key = whose cuts owners key := by simp [findV, g2, g1]
      have e2 : findE cuts owners key = 0 := by simp [findE, g1, g2]
      have G1 := (show Hid (mapErr cuts owners = 0) from g1)
      clear g1
      have E1 := (show Hid (findV cuts owners key = whose cuts owners key ∧ findE cuts owners key = 0) from ⟨e1, e2⟩)
      clear e1 e2
      go_enter Try.func26, Try.ntmps26
      go_wp2_with fail
      refine (mcheck_any _ cuts owners _ (hv0.ext (by (repeat (first | (with_reducible assumption) | (with_reducible exact Ext.refl _) | (with_reducible refine Ext.drew ?_) | (with_reducible refine Ext.drewN ?_ _) | (with_reducible refine Ext.alloc ?_ _) | (with_reducible refine Ext.trans ?_ (by with_reducible assumption)))))) hk).mono ?_
      rintro e w1 ⟨rfl, he1⟩
      have hb := blk2 (he1.heap hb0)
      go_wp2_with fail
      refine (key_any _ _ hks).mono ?_
      rintro e w' ⟨rfl, rfl⟩
      go_wp2_with fail
      refine (of_any _ cuts owners key _ (hv0.ext (by (repeat (first | (with_reducible assumption) | (with_reducible exact Ext.refl _) | (with_reducible refine Ext.drew ?_) | (with_reducible refine Ext.drewN ?_ _) | (with_reducible refine Ext.alloc ?_ _) | (with_reducible refine Ext.trans ?_ (by with_reducible assumption)))))) ok.srt ok.len (by omega)).mono ?_
      rintro e w2 ⟨rfl, he2⟩
      go_wp2
      go_ret2
      exact ⟨rT2 (vI E1.out.1.symm) (vI E1.out.2.symm), by (repeat (first | (with_reducible assumption) | (with_reducible exact Ext.refl _) | (with_reducible refine Ext.drew ?_) | (with_reducible refine Ext.drewN ?_ _) | (with_reducible refine Ext.alloc ?_ _) | (with_reducible refine Ext.trans ?_ (by with_reducible assumption))))⟩
  · have q : (mapErr cuts owners != 0) = true := by simp [g1]
    have e1 : findV cuts owners key = 0 := by simp [findV, g1]
    have e2 : findE cuts owners key = mapErr cuts owners := by simp [findE, g1]
    have E1 := (show Hid (findV cuts owners key = 0 ∧ findE cuts owners key = mapErr cuts owners) from ⟨e1, e2⟩)
    clear e1 e2 g1
    go_enter Try.func26, Try.ntmps26
    go_wp2_with fail
    refine (mcheck_any _ cuts owners _ (hv0.ext (by (repeat (first | (with_reducible assumption) | (with_reducible exact Ext.refl _) | (with_reducible refine Ext.drew ?_) | (with_reducible refine Ext.drewN ?_ _) | (with_reducible refine Ext.alloc ?_ _) | (with_reducible refine Ext.trans ?_ (by with_reducible assumption)))))) hk).mono ?_
    rintro e w1 ⟨rfl, he1⟩
    have hb := blk2 (he1.heap hb0)
    go_wp2
    go_ret2
    exact ⟨rT2 (vI E1.out.1.symm) (vI E1.out.2.symm), by (repeat (first | (with_reducible assumption) | (with_reducible exact Ext.refl _) | (with_reducible refine Ext.drew ?_) | (with_reducible refine Ext.drewN ?_ _) | (with_reducible refine Ext.alloc ?_ _) | (with_reducible refine Ext.trans ?_ (by with_reducible assumption))))⟩
/-- the number that Within makes -/
def wi (k n : Int) : Int := (k % 18446744073709551616) % n
theorem wi_lo {k n : Int} (hn : 0 < n) : 0 ≤ wi k n := Int.emod_nonneg _ (by omega)
theorem wi_hi {k n : Int} (hn : 0 < n) : wi k n < n := Int.emod_lt_of_pos _ hn
theorem within_any (k n : Int) (w : World) (hn : 0 < n) (hn' : n ≤ 1000000000) : Calls Try.prog 23 #[.int .i64 k, .int .i64 n] w fun e w' => e = .returned (.int .i64 (wi k n)) ∧ w = w' := by
  have hu : IntKind.u64.wrap n = n := by rw [IntKind.wrap_u64]; omega
  have hnz : ¬ n = 0 := by omega
  have hl := wi_lo (k := k) hn
  have hh := wi_hi (k := k) hn
  go_enter Try.func23, Try.ntmps23
  go_wp2
  go_ret
  refine ⟨rI ?_, rfl⟩
  have e : (IntKind.u64.wrap k).tmod n = wi k n := by
    rw [IntKind.wrap_u64, Int.tmod_eq_emod_of_nonneg (by omega)]; rfl
  show wrap64 ((IntKind.u64.wrap k).tmod n) = wi k n
  rw [e]; unfold wrap64; omega
/-- the keys that the statements use -/
def keysL : List ByteArray := [⟨#[97]⟩, ⟨#[98]⟩, ⟨#[99]⟩, ⟨#[100]⟩, ⟨#[109]⟩, ⟨#[110]⟩, ⟨#[122]⟩, ⟨#[97, 98]⟩]
set_option maxRecDepth 10000 in
theorem keys_any (w : World) : Calls Try.prog 25 #[] w fun e w' => ∃ a c, e = .returned (.slice a 8 c) ∧ w'.ownsRow w.heap.size 9 1 (.slice a 8 c) 8 (cS keysL) ∧ Ext w w' := by
  go_enter Try.func25, Try.ntmps25
  go_wp2
  go_ret
  exact ⟨_, _, rfl, World.ownsRow_lit _ _ _ (Nat.le_refl _) (by decide) rfl, by (repeat (first | (with_reducible assumption) | (with_reducible exact Ext.refl _) | (with_reducible refine Ext.drew ?_) | (with_reducible refine Ext.drewN ?_ _) | (with_reducible refine Ext.alloc ?_ _) | (with_reducible refine Ext.trans ?_ (by with_reducible assumption))))⟩
/-- Key -/
def keyOf (k : Int) : ByteArray := kAt keysL (wi k 8).toNat
set_option maxRecDepth 10000 in
theorem kKey_any (k : Int) (w : World) : Calls Try.prog 29 #[.int .i64 k] w fun e w' => e = .returned (.string (keyOf k)) ∧ Ext w w' := by
  have h0 := wi_lo (k := k) (n := 8) (by omega)
  have h1 := wi_hi (k := k) (n := 8) (by omega)
  have h2 : (wi k 8).toNat < keysL.length := by simp [keysL]; omega
  go_enter Try.func29, Try.ntmps29
  go_wp2_with fail
  refine (keys_any _).mono ?_
  rintro e w1 ⟨a, c, rfl, ho, he1⟩
  obtain ⟨b, off, rfl, _, hc1, hc2, hc⟩ := seg_cells (own_seg ho) (by omega)
  unfold maxLen at hc2
  have c1 := hc _ _ (cS_at0 keysL (wi k 8).toNat h2)
  clear hc
  go_wp2_with fail
  refine (within_any _ _ _ (by omega) (by omega)).mono ?_
  rintro e w' ⟨rfl, rfl⟩
  go_wp2
  go_ret
  exact ⟨rS (kAt_eq h2).symm, by (repeat (first | (with_reducible assumption) | (with_reducible exact Ext.refl _) | (with_reducible refine Ext.drew ?_) | (with_reducible refine Ext.drewN ?_ _) | (with_reducible refine Ext.alloc ?_ _) | (with_reducible refine Ext.trans ?_ (by with_reducible assumption))))⟩
end Go.Proofs.Ytijcckhkofkenaa

/- Contracts and lemmas for the proofs of this seat; each theorem states its own conditions. -/
namespace Go.Proofs.Ytijcckhkofkenaa
open Go.RowKit
theorem keyOf_is (k : Int) : keyB (keyOf k) = true ∧ (keyOf k).size ≤ 9223372036854775807 := by
  have h0 := wi_lo (k := k) (n := 8) (by omega)
  have h1 := wi_hi (k := k) (n := 8) (by omega)
  have h2 : (wi k 8).toNat < keysL.length := by simp [keysL]; omega
  have h3 : ∀ k, (h : k < keysL.length) → keyB keysL[k] = true ∧ keysL[k].size ≤ 2 := by decide +kernel
  have := h3 _ h2
  unfold keyOf
  rw [kAt_eq h2]; exact ⟨this.1, by omega⟩
end Go.Proofs.Ytijcckhkofkenaa

/- Contracts and lemmas for the proofs of this seat; each theorem states its own conditions. -/
namespace Go.Proofs.Ytijcckhkofkenaa
open Go.RowKit Go.Maps
/-! lock.New, holds, May, Ready, Left -/
theorem lnew_any (w : World) : Calls Try.prog 48 #[] w fun e w' => e = .returned (.pointer (some ⟨w.heap.size + 2, 0, none⟩)) ∧ LockSt w' w.heap.size (w.heap.size + 2) w.heap.size (w.heap.size + 1) [] (fun _ => false) (fun _ => none) (fun _ => none) ∧ Ext w w' := by
  have hmm := @run_makeMap Try.prog
  have L := lock_new w
  go_enter Try.func48, Try.ntmps48
  go_wp2
  go_ret
  exact ⟨rfl, L, ((((Ext.refl w).alloc _).alloc _).alloc _)⟩
theorem holds_hit {l : Clm} {s j : Nat} (hj : j < l.length) (hlo : ∀ i (h : i < j), (l[i]'(by omega)).1 ≠ s) (h : l[j].1 = s) : holdsL l s = (decide (j = 0) || (!l[j].2 && !((l.take j).any fun c => c.2))) := by
  have e : l = l.take j ++ l[j] :: l.drop (j + 1) := by rw [← List.drop_eq_getElem_cons hj, List.take_append_drop]
  unfold holdsL
  conv => lhs; rw [e]
  rw [holdsG_pre (fun c hc => by
    obtain ⟨i, hi, rfl⟩ := List.mem_iff_getElem.1 hc
    rw [List.length_take] at hi
    rw [List.getElem_take]
    exact hlo i (by omega))]
  rw [holdsG, if_pos h]
  have e2 : (l.take j).isEmpty = decide (j = 0) := by
    cases j with
    | zero => simp
    | succ j => 
      have : l ≠ [] := by rintro rfl; simp at hj
      simp [this]
  rw [e2]; simp
theorem holds_miss {l : Clm} {s : Nat} : ∀ {f m : Bool}, (∀ c ∈ l, c.1 ≠ s) → holdsG f m s l = false := by
  induction l with
  | nil => intro f m _; rfl
  | cons c l ih => intro f m h; rw [holdsG, if_neg (h c (by simp))]; exact ih fun d hd => h d (by simp [hd])
theorem holds1_any (x : Nat × Bool) (w : World) : Calls Try.prog 126 #[.agg #[.int .i64 x.1, .bool x.2]] w fun e w' => e = .returned (.bool x.2) ∧ Ext w w' := by
  have xb := blk2 (heap_alloc_new w (.cells #[.int .i64 x.1, .bool x.2] 139))
  go_enter Try.func126, Try.ntmps126
  go_wp2
  go_ret
  exact ⟨rfl, (Ext.refl w).alloc _⟩
theorem seg_takeK {w : World} {b off c : Nat} {l : Clm} (hc : ∀ j u, (cK l)[j]? = some u → w.cell? ⟨b, off + j, none⟩ = some u) {j : Nat} (hj : j ≤ l.length) (h1 : l.length ≤ c) (h2 : c ≤ maxLen) : Seg w (.slice (some ⟨b, off, none⟩) j c) 2 (l.take j).length (cK (l.take j)) := by
  have hl : (l.take j).length = j := by rw [List.length_take]; omega
  refine ⟨by rw [cK_len], some ⟨b, off, none⟩, c, by rw [hl], by omega, h2, fun _ => ⟨b, off, rfl, fun i u hu => hc i u ?_⟩⟩
  have e : cK l = cK (l.take j) ++ cK (l.drop j) := by rw [← cK_app, List.take_append_drop]
  rw [e, List.getElem?_append_left (List.getElem?_eq_some_iff.1 hu).1]
  exact hu
set_option maxRecDepth 10000 in
set_option maxHeartbeats 2000000 in
theorem holds_any {w : World} {B bt bk bd : Nat} {A : List Ops} {g : Nat → Bool} {F : ByteArray → Option SV} {G : Int → Option SV} (h : LockSt w B bt bk bd A g F G) (s : Nat) (key : ByteArray) (hk : okS key) :
    Calls Try.prog 95 #[.pointer (some ⟨bt, 0, none⟩), .int .i64 s, .string key] w fun e w' => e = .returned (.bool (holdsL (clmTo A g key A.length) s)) ∧ Ext w w' := by
  have hown0 := h.keys key
  have hkey := WideMaps.keyOf_string_mk Try.underlying9 (P := Try.prog) (k := 9) (s := key) hk
  obtain ⟨n, D, hmap, hn, hF⟩ := h.km
  have hbox := h.box
  have hfew := h.few
  obtain ⟨ac, cc, hsv⟩ := own_form hown0
  rw [hsv] at hown0
  have hseg := own_seg hown0
  have hcl := fun c (hc : c ∈ clmTo A g key A.length) => (clm_mem.1 hc).1
  have hlen : (clmTo A g key A.length).length ≤ 1000000 := by
    have : ∀ n, (clmTo A g key n).length ≤ n := by
      intro n; induction n with
      | zero => simp [clmTo]
      | succ n ih => rw [clmTo, List.length_append]; unfold clm1; split <;> simp <;> omega
    have := this A.length; omega
  obtain ⟨l, hl⟩ : ∃ l, clmTo A g key A.length = l := ⟨_, rfl⟩
  rw [hl] at hseg hsv hcl hlen
  have HL := hid hl
  have HCL := hid hcl
  clear hl hown0 hcl
  have hzero := fun w => Try.zeroValue137 w
  have cb : w.cell? ⟨bt, 0, none⟩ = some (.map (some bk)) := by simp [World.cell?, hbox]
  obtain ⟨_, aa, c', hq, h1, h2, h3⟩ := hseg
  injection hq with hq1 _ hq3
  subst hq1; subst hq3
  unfold maxLen at h2
  have H3 := hid h3
  clear h3
  go_enter Try.func95, Try.ntmps95
  go_wp2_with (first | (at_lookup; refine wpList_lookup_sv _ rfl _ _ 131 rfl 9 137 lawStr Try.underlying131 (hzero _) bk n D F hF rfl hmap _ key hk rfl hkey ?_))
  go_loopw [7, 8, 16] (fun _ _ iv wr => ∃ j : Nat, j ≤ l.length ∧ iv = .int .i64 j ∧ (∀ i (h : i < l.length), i < j → l[i].1 ≠ s) ∧ Ext w wr) (fun _ _ iv _ => l.length - (intOf iv).toNat)
  case atStart => exact ⟨0, Nat.zero_le _, rfl, fun i _ h => by omega, Ext.refl _⟩
  case round =>
    obtain ⟨j, hj, rfl, hn, E⟩ := hrel
    have HN := hid hn
    clear hn
    by_cases hlt : j < l.length
    · obtain ⟨b, off, rfl, hcell⟩ := H3.out (by omega)
      have x0 := E.cell (hcell (j * 2) _ (cK_at l j hlt).1)
      have x1 := E.cell (hcell (j * 2 + 1) _ (cK_at l j hlt).2)
      rw [← Nat.add_assoc] at x1
      have HIT := hid (fun h => holds_hit (s := s) hlt (fun i hi => HN.out i (by omega) hi) h)
      have HS := hid (fun (h : l[j].1 ≠ s) => (fun i (hi : i < l.length) (h' : i < j + 1) => by
        rcases Nat.lt_or_ge i j with h2 | h2
        · exact HN.out i hi h2
        · have : i = j := by omega
          subst this; exact h : ∀ i (hi : i < l.length), i < j + 1 → l[i].1 ≠ s))
      have ST := hid (seg_takeK (fun i u hu => E.cell (hcell i u hu)) (Nat.le_of_lt hlt) h1 h2)
      have hcs := HCL.out _ (List.getElem_mem hlt)
      clear hcell
      generalize l[j] = c at x0 x1 HIT HS hcs
      obtain ⟨c1, c2⟩ := c
      dsimp only at x0 x1 HIT HS hcs
      have EA := (Ext.refl wr).alloc (.cells #[.int .i64 c1, .bool c2] 139)
      have xb := blk2 (heap_alloc_new wr (.cells #[.int .i64 c1, .bool c2] 139))
      by_cases hs : c1 = s
      · have qs : ((c1 : Int) == (s : Int)) = true := by simp [hs]
        have HR := hid (HIT.out hs)
        clear HIT HS hs
        by_cases hj0 : j = 0
        · have q0 : ((j : Int) == 0) = true := by simp [hj0]
          have hr : holdsL l s = true := by rw [HR.out]; simp [hj0]
          have HR2 := hid hr
          clear hr hj0
          go_wp2
          go_ret
          exact ⟨rB (by rw [HL.out, HR2.out]), E.trans EA⟩
        · have q0 : ((j : Int) == 0) = false := by simp [hj0]
          cases c2 with
          | true =>
            have hr : holdsL l s = false := by rw [HR.out]; simp [hj0]
            have HR2 := hid hr
            clear hr hj0
            go_wp2
            go_ret
            exact ⟨rB (by rw [HL.out, HR2.out]), E.trans EA⟩
          | false =>
            have hr : holdsL l s = !((l.take j).any fun c => c.2) := by rw [HR.out]; simp [hj0]
            have HR2 := hid hr
            clear hr hj0
            have E1 := E.trans EA
            have hmap1 := ownsMap_ext hmap E1
            have cb1 := E1.cell cb
            have CF := hid (containsF_K 126 #[] (enters_of Try.func126 (by kernel_rfl) rfl) (fun c => c.2) _ (l.take j) (wr.alloc (.cells #[.int .i64 c1, .bool false] 139)) (ST.out.ext EA) (fun x _ w' _ => holds1_any x w'))
            have hji : (j : Int) ≤ (l.length : Int) := by omega
            have hjc : (j : Int) ≤ (cc : Int) := by omega
            go_wp2_with (first | (at_lookup; refine wpList_lookup_svg _ (by rfl) _ _ 131 rfl 9 137 lawStr Try.underlying131 (hzero _) bk n D F hF rfl hmap1 _ key hk rfl hkey ?_))
            refine (CF.out).mono ?_
            rintro e wa ⟨rfl, Ea⟩
            go_wp2
            go_ret
            exact ⟨rB (by rw [HL.out, HR2.out]), E1.trans Ea⟩
      · have qs : ((c1 : Int) == (s : Int)) = false := by simp; omega
        have HS2 := hid (HS.out hs)
        clear HS HIT hs
        go_wp2
        go_roundw
        case rel => exact ⟨j + 1, by omega, by go_num, HS2.out, E.trans EA⟩
        case measure => simp [intOf]; omega
    · obtain rfl : j = l.length := by omega
      have hr : holdsL l s = false := holds_miss fun c hc => by
        obtain ⟨i, hi, rfl⟩ := List.mem_iff_getElem.1 hc
        exact HN.out i hi hi
      have HR2 := hid hr
      clear hr
      go_wp2
      go_ret
      exact ⟨rB (by rw [HL.out, HR2.out]), E⟩
end Go.Proofs.Ytijcckhkofkenaa

/- Contracts and lemmas for the proofs of this seat; each theorem states its own conditions. -/
namespace Go.Proofs.Ytijcckhkofkenaa
open Go.RowKit
/-! plain laws of Join, Scan, Total -/
def joinP (a b : Prs) : Prs := b.foldl (fun o p => withP o p.1 p.2) a
theorem join_nil (a : Prs) : joinP a [] = a := rfl
theorem join_cons (a : Prs) (p : ByteArray × Int) (b : Prs) : joinP a (p :: b) = joinP (withP a p.1 p.2) b := rfl
theorem join_snoc (a b : Prs) (p : ByteArray × Int) : joinP a (b ++ [p]) = withP (joinP a b) p.1 p.2 := by simp [joinP, List.foldl_append]
theorem join_step {a b : Prs} {k : Nat} (hk : k < b.length) : joinP a (b.take (k + 1)) = withP (joinP a (b.take k)) b[k].1 b[k].2 := by
  rw [List.take_succ_eq_append_getElem hk, join_snoc]
theorem join_len (a b : Prs) : (joinP a b).length ≤ a.length + b.length := by
  induction b generalizing a with
  | nil => simp [join_nil]
  | cons p b ih =>
    have := ih (withP a p.1 p.2)
    have := with_len a p.1 p.2
    rw [join_cons, List.length_cons]; omega
theorem join_srt {a : Prs} (b : Prs) (h : srtP a) : srtP (joinP a b) := by
  induction b generalizing a with
  | nil => exact h
  | cons p b ih => exact ih (srt_with h _ _)
theorem join_okS {a b : Prs} (h : StoreOk a) (hb : StoreOk b) : StoreOk (joinP a b) := by
  have : ∀ l : Prs, (∀ p ∈ l, keyB p.1 = true ∧ -1000000000 ≤ p.2 ∧ p.2 ≤ 1000000000) → ∀ a, StoreOk a → StoreOk (joinP a l) := by
    intro l
    induction l with
    | nil => intro _ a h; exact h
    | cons p l ih =>
      intro hl a h
      have hp := hl p (by simp)
      exact ih (fun q hq => hl q (by simp [hq])) _ (storeOk_with h hp.1 hp.2)
  exact this b (fun p hp => ⟨hb.key p hp, (hb.val p hp).2⟩) a h
theorem val_join {a b : Prs} (ha : srtP a) (hb : srtP b) (hz : nzP b) (k : ByteArray) : valP (joinP a b) k = if valP b k ≠ 0 then valP b k else valP a k := by
  induction b generalizing a with
  | nil => simp [join_nil, valP]
  | cons p b ih =>
    obtain ⟨h1, h2⟩ := srtP_cons.1 hb
    rw [join_cons, ih (srt_with ha _ _) h2 (fun q hq => hz q (by simp [hq])), val_with ha, valP]
    by_cases e : p.1 = k
    · subst e
      rw [valP_lt h1, if_neg (by simp), if_pos rfl, if_pos rfl, if_pos (hz p (by simp))]
    · rw [if_neg e, if_neg e]
/-- no key of b is in a -/
def apartB (a b : Prs) : Bool := b.all fun p => decide (valP a p.1 = 0)
theorem apart_val {a b : Prs} (h : apartB a b = true) {k : ByteArray} (hk : valP b k ≠ 0) : valP a k = 0 := by
  unfold apartB at h
  rw [List.all_eq_true] at h
  simpa using h _ (valP_ne hk)
theorem apart_of {a b : Prs} (hb : srtP b) (hz : nzP b) (h : ∀ k, valP b k ≠ 0 → valP a k = 0) : apartB a b = true := by
  unfold apartB
  rw [List.all_eq_true]
  intro p hp
  simpa using h p.1 (by rw [valP_mem hb hp]; exact hz p hp)
theorem apart_symm {a b : Prs} (ha : srtP a) (za : nzP a) (h : apartB a b = true) : apartB b a = true :=
  apart_of ha za fun k hk => by
    by_cases e : valP b k = 0
    · exact e
    · exact absurd (apart_val h e) hk
theorem join_comm {a b : Prs} (ha : StoreOk a) (hb : StoreOk b) (h : apartB a b = true) : joinP a b = joinP b a := by
  refine store_ext (join_okS ha hb) (join_okS hb ha) fun k => ?_
  rw [val_join ha.srt hb.srt hb.nz, val_join hb.srt ha.srt ha.nz]
  by_cases e : valP b k = 0
  · by_cases e' : valP a k = 0
    · simp [e, e']
    · simp [e, e']
  · have := apart_val h e
    simp [e, this]
theorem tot_with {l : Prs} {k : ByteArray} {n : Int} (hs : srtP l) (h : valP l k = 0) (hz : nzP l) : totTo (withP l k n) = totTo l + n := by
  induction l with
  | nil => simp only [withP]; split <;> simp [totTo, *]
  | cons p l ih =>
    obtain ⟨h1, h2⟩ := srtP_cons.1 hs
    have hpk : p.1 ≠ k := by
      rintro rfl
      rw [valP, if_pos rfl] at h
      exact hz p (by simp) h
    have h' : valP l k = 0 := by rw [valP, if_neg hpk] at h; exact h
    simp only [withP]
    split
    · simp only [totTo, ih h2 h' (fun q hq => hz q (by simp [hq]))]; omega
    · try rw [if_neg hpk]
      split
      · rename_i e; subst e; omega
      · simp only [totTo]; omega
theorem tot_join {a b : Prs} (ha : StoreOk a) (hb : StoreOk b) (h : apartB a b = true) : totTo (joinP a b) = totTo a + totTo b := by
  have : ∀ l : Prs, srtP l → nzP l → (∀ p ∈ l, keyB p.1 = true ∧ -1000000000 ≤ p.2 ∧ p.2 ≤ 1000000000) → ∀ a, StoreOk a → apartB a l = true → totTo (joinP a l) = totTo a + totTo l := by
    intro l
    induction l with
    | nil => intro _ _ _ a _ _; simp [join_nil, totTo]
    | cons p l ih =>
      intro hs hz hl a h ap
      obtain ⟨h1, h2⟩ := srtP_cons.1 hs
      have hp := hl p (by simp)
      have hp0 : valP a p.1 = 0 := by
        unfold apartB at ap; rw [List.all_eq_true] at ap; simpa using ap p (by simp)
      rw [join_cons, ih h2 (fun q hq => hz q (by simp [hq])) (fun q hq => hl q (by simp [hq])) _ (storeOk_with h hp.1 hp.2), tot_with h.srt hp0 h.nz, totTo]
      · omega
      · unfold apartB at ap ⊢
        rw [List.all_eq_true] at ap ⊢
        intro q hq
        rw [val_with h.srt, if_neg (blt_ne (h1 q hq))]
        exact ap q (by simp [hq])
  exact this b hb.srt hb.nz (fun p hp => ⟨hb.key p hp, (hb.val p hp).2⟩) a ha h
theorem scan_ok' {l : Prs} (h : StoreOk l) (f t : ByteArray) : StoreOk (scanP l f t) := storeOk_filter h _
theorem val_scan {l : Prs} (h : srtP l) (f t k : ByteArray) : valP (scanP l f t) k = if inB f t (k, valP l k) then valP l k else 0 := val_filter h _ k
/-- what lies ahead of a place, and from there on -/
theorem scan_cut {l : Prs} (h : srtP l) (at_ : ByteArray) (hne : at_.toList ≠ []) : scanP l ⟨#[]⟩ at_ ++ scanP l at_ ⟨#[]⟩ = l := by
  have e1 : ∀ p : ByteArray × Int, inB ⟨#[]⟩ at_ p = blt p.1 at_ := fun p => by
    have e0 : (ByteArray.mk #[]).toList = [] := by rw [toList_data]
    have : blt p.1 ⟨#[]⟩ = false := by unfold blt; rw [e0]; cases p.1.toList <;> rfl
    simp [inB, this, hne]
  have e2 : ∀ p : ByteArray × Int, inB at_ ⟨#[]⟩ p = !blt p.1 at_ := fun p => by
    have e0 : (ByteArray.mk #[]).toList = [] := by rw [toList_data]
    simp [inB, e0]
  unfold scanP
  rw [show inB ⟨#[]⟩ at_ = fun p => blt p.1 at_ from funext e1, show inB at_ ⟨#[]⟩ = fun p => !blt p.1 at_ from funext e2]
  induction l with
  | nil => rfl
  | cons p l ih =>
    obtain ⟨h1, h2⟩ := srtP_cons.1 h
    rw [List.filter_cons, List.filter_cons]
    cases hb : blt p.1 at_ with
    | true => simp; exact ih h2
    | false =>
      have : l.filter (fun p => blt p.1 at_) = [] := by
        rw [List.filter_eq_nil_iff]
        intro q hq hqa
        have := blt_trans (h1 q hq) hqa
        rw [hb] at this; cases this
      have e3 : l.filter (fun p => !blt p.1 at_) = l := by
        rw [List.filter_eq_self]
        intro q hq
        cases hqa : blt q.1 at_ with
        | false => rfl
        | true => have := blt_trans (h1 q hq) hqa; rw [hb] at this; cases this
      simp [this, e3]
theorem hit_val {l : Prs} (hs : srtP l) (hz : nzP l) {k : ByteArray} {i : Nat} (hc : cutAt (bltAt (keysP l) k) l.length i) : hitS (keysP l) k i = decide (valP l k ≠ 0) := by
  have hv := val_cut hs hc
  cases hh : hitS (keysP l) k i with
  | true =>
    have hi := hit_lt hh
    rw [keysP_len] at hi
    rw [dif_pos hi, if_pos hh] at hv
    rw [hv]
    exact (decide_eq_true (hz _ (List.getElem_mem hi))).symm
  | false =>
    rw [hh] at hv
    simp at hv
    simp [hv]
theorem keyB_size {k : ByteArray} (h : keyB k = true) : k.size ≤ 6 := by
  simp [keyB] at h; exact h.1.2
theorem store_small {l : Prs} (h : StoreOk l) : ∀ p ∈ l, p.1.size ≤ 9223372036854775807 := fun p hp => by have := keyB_size (h.key p hp); omega
end Go.Proofs.Ytijcckhkofkenaa
