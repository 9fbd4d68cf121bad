/- Contracts and lemmas for the proofs of this seat; each theorem states its own conditions. -/
import Derived.Test.YtijcckhkofkenaaL0
namespace Go.Proofs.Ytijcckhkofkenaa
open Go.RowKit
set_option maxRecDepth 100000 in
set_option maxHeartbeats 1000000 in
theorem gives_walk (v : Value) (l : List Int) (i n : Int) (w : World) (hv : Seg w v 1 l.length (cI l)) (hb : ∀ z ∈ l, -9223372036854775808 ≤ z ∧ z ≤ 9223372036854775807) :
    Calls Try.prog 3 #[v, .int .i64 i, .int .i64 n] w fun e w' => e = .returned (.bool true) ∧ Ext w w' := by
  have ok := mk_ok l
  have hsm := mk_small l
  go_enter Try.func3, Try.ntmps3
  go_wp2_with fail
  refine (shardBegun_any _).mono ?_
  rintro e w1 ⟨rfl, he1⟩
  go_wp2_with fail
  refine (kMap_any _ l _ (hv.ext he1) hb).mono ?_
  generalize mkC l 6 = C at ok hsm ⊢
  generalize mkO l 6 = O at ok ⊢
  have hC := ok.few
  have HO := hid ok.len
  have hO1 : 1 ≤ O.length := by have := ok.len; omega
  have hO2 : O.length ≤ 13 := by have := ok.len; omega
  have i0 := wi_lo (k := i) (n := (O.length : Int)) (by omega)
  have i1 := wi_hi (k := i) (n := (O.length : Int)) (by omega)
  have n0 := wi_lo (k := n) (n := 4) (by omega)
  have n1 := wi_hi (k := n) (n := 4) (by omega)
  obtain ⟨i', hi'⟩ := Int.eq_ofNat_of_zero_le i0
  generalize hnn : wi n 4 = n' at n0 n1
  have hi2 : i' < O.length := by omega
  rintro e w2 ⟨v', rfl, hm, he2⟩
  obtain ⟨a1, k1, a2, k2, rfl, hM⟩ := hm.unpack
  have hb7 := heap_alloc_new w2 (.cells #[.slice a1 C.length k1, .slice a2 O.length k2] 26)
  have hm7 := hM.ext ((Ext.refl w2).alloc (.cells #[.slice a1 C.length k1, .slice a2 O.length k2] 26))
  have he7 : Ext w (w2.alloc (.cells #[.slice a1 C.length k1, .slice a2 O.length k2] 26)) := by (repeat (first | (with_reducible assumption) | (with_reducible exact Ext.refl _) | (with_reducible refine Ext.drew ?_) | (with_reducible refine Ext.drewN ?_ _) | (with_reducible refine Ext.alloc ?_ _) | (with_reducible refine Ext.trans ?_ (by with_reducible assumption))))
  go_wp2_with fail
  refine (within_any _ _ _ (by omega) (by omega)).mono ?_
  rintro e w' ⟨rfl, rfl⟩
  go_wp2_with fail
  refine (within_any _ _ _ (by omega) (by omega)).mono ?_
  rintro e w' ⟨rfl, rfl⟩
  rw [hnn]
  clear hi' i0 i1 hnn
  generalize (w2.alloc (.cells #[.slice a1 C.length k1, .slice a2 O.length k2] 26)) = w3 at hb7 hm7 he7 ⊢
  have x7 := blk2 hb7
  go_wp2_with fail
  refine (give_ok _ C O i' n' _ hm7 hsm ok hi2 n0 n1).mono ?_
  rintro e w4 ⟨v'', rfl, hm2, he4⟩
  have hl2 : (O.set i' n').length = O.length := List.length_set
  obtain ⟨a3, k3, a4, k4, rfl, hM2⟩ := hm2.unpack
  rw [hl2] at hM2 ⊢
  clear hl2
  have hok2 := ok_set ok i' n' n0 n1
  have hb8 := heap_alloc_new w4 (.cells #[.slice a3 C.length k3, .slice a4 O.length k4] 26)
  have hm8 := hM2.ext ((Ext.refl w4).alloc (.cells #[.slice a3 C.length k3, .slice a4 O.length k4] 26))
  have he8 : Ext w3 (w4.alloc (.cells #[.slice a3 C.length k3, .slice a4 O.length k4] 26)) := by (repeat (first | (with_reducible assumption) | (with_reducible exact Ext.refl _) | (with_reducible refine Ext.drew ?_) | (with_reducible refine Ext.drewN ?_ _) | (with_reducible refine Ext.alloc ?_ _) | (with_reducible refine Ext.trans ?_ (by with_reducible assumption))))
  go_wp2_with fail
  generalize (w4.alloc (.cells #[.slice a3 C.length k3, .slice a4 O.length k4] 26)) = w5 at hb8 hm8 he8 ⊢
  refine (keys_any _).mono ?_
  rintro e w6 ⟨a5, k5, rfl, ho5, he6⟩
  obtain ⟨b5, off5, rfl, _, hk5, hk5', hc5⟩ := seg_cells (own_seg ho5) (by omega)
  unfold maxLen at hk5'
  have hx0 : Ext w w6 := (he7.trans he8).trans he6
  have hy7 := he6.heap (he8.heap hb7)
  have hy8 := he6.heap hb8
  have hM7 := hm7.ext (he8.trans he6)
  have hM8 := hm8.ext he6
  have hg7 : w3.heap.size ≤ w6.heap.size := (he8.trans he6).size'
  clear hb7 hm7 he7 x7 hb8 hm8 he8 he6 hm hM hm2 hM2 he4 he2 he1 hv hb ho5
  have kk := mapErr_ok ok
  have kk2 := mapErr_ok hok2
  have hsrt := ok.srt
  go_wp2_with fail
  go_loopw [6, 11, 12, 13, 14, 15, 16, 40] (fun r _ _ _ _ _ _ i wr => ∃ k : Nat, k ≤ 8 ∧ i = .int .i64 k ∧ r = .bool false ∧ Ext w6 wr) (fun _ _ _ _ _ _ _ i _ => 8 - (intOf i).toNat)
  case atStart => exact ⟨0, by omega, rfl, rfl, Ext.refl _⟩
  case round =>
    obtain ⟨k, hk, rfl, rfl, hxr⟩ := hrel
    have z7 := hxr.heap hy7
    have z8 := hxr.heap hy8
    have x7 := blk2 z7
    have x8 := blk2 z8
    by_cases hlt : k < 8
    · have c5 := hxr.cell (hc5 _ _ (cS_at0 keysL k (by simp [keysL]; omega)))
      have hkey : keyB (keysL[k]'(by simp [keysL]; omega)) = true := by
        have : ∀ k, (h : k < keysL.length) → keyB keysL[k] = true := by decide +kernel
        exact this k (by simp [keysL]; omega)
      have hksz : (keysL[k]'(by simp [keysL]; omega)).size ≤ 9223372036854775807 := by
        have : ∀ k, (h : k < keysL.length) → keysL[k].size ≤ 2 := by decide +kernel
        have := this k (by simp [keysL]; omega)
        omega
      generalize (keysL[k]'(by simp [keysL]; omega)) = key at c5 hkey hksz
      obtain ⟨_, _, hq, hs7, hs7o⟩ := hM7
      injection hq with hq; injection hq with hq; injection hq with hq hq'; subst hq; injection hq' with hq' _; subst hq'
      have hs7r := hs7.ext hxr
      have hM7r : IsMap wr (.agg #[.slice a1 C.length k1, .slice a2 O.length k2]) C O := ⟨_, _, rfl, hs7r, hs7o.ext hxr⟩
      have hM8r := hM8.ext hxr
      have fv : findV C O key = whose C O key := by simp [findV, kk, hkey]
      have fe : findE C O key = 0 := by simp [findE, kk, hkey]
      have fv2 : findV C (O.set i' n') key = whose C (O.set i' n') key := by simp [findV, kk2, hkey]
      have fe2 : findE C (O.set i' n') key = 0 := by simp [findE, kk2, hkey]
      have KK := hid (And.intro kk kk2)
      go_wp2_with fail
      obtain ⟨wo, hwo⟩ : ∃ wo : World, wo = wr := ⟨_, rfl⟩
      subst hwo
      go_loop [12] (fun x => ∃ j : Nat, j ≤ C.length ∧ x = .int .i64 j ∧ allTo (leAt C key) j) (fun x => C.length - (intOf x).toNat)
      case atStart => exact ⟨0, by omega, rfl, allTo_zero _⟩
      case round =>
        obtain ⟨j, hj, rfl, hall⟩ := hrel
        by_cases hjl : j < C.length
        · obtain ⟨b1, off1, rfl, _, hk1, hk1', hc1⟩ := seg_cells hs7r (by omega)
          unfold maxLen at hk1'
          have cj := hc1 _ _ (cS_at0 C j hjl)
          clear hc1
          cases hb : leAt C key j with
          | true =>
            have hb' : Op.bytesLess key.toList C[j].toList = false := by
              simp only [leAt, kAt_eq hjl, Bool.not_eq_true'] at hb; exact hb
            have hs := allTo_succ hall hb
            go_wp2_with fail
            go_round
            case rel => exact ⟨j + 1, by omega, by go_num, hs⟩
            case measure => simp [intOf]; omega
          | false =>
            have hb' : Op.bytesLess key.toList C[j].toList = true := by
              simp only [leAt, kAt_eq hjl, Bool.not_eq_false'] at hb; exact hb
            have hp := plc_stop hsrt hj hall (fun _ => hb)
            go_wp2_with fail
            by_cases hji : j = i'
            · have hw2 := whose_set_hit (n := n') hi2 (hp.trans hji)
              subst hji
              have HP := hid hp
              clear hp
              refine (find_any _ C O key _ hM7r hsm hksz).mono ?_
              rintro e wa ⟨rfl, hea⟩
              have y8 := blk2 (hea.heap z8)
              go_wp2_with fail
              refine (find_any _ C (O.set j n') key _ (hM8r.ext hea) hsm hksz).mono ?_
              rintro e wb ⟨rfl, heb⟩
              go_wp2_with fail
              go_roundw
              case rel => exact ⟨k + 1, by omega, by go_num, rfl, (hxr.trans hea).trans heb⟩
              case measure => simp [intOf]; omega
            · have hw2 := whose_set_miss (C := C) (O := O) (n := n') (fun h => hji (hp.symm.trans h))
              have g1 : ((j : Int) == (i' : Int)) = false := by simp; omega
              have g2 : ((j : Int) != (i' : Int)) = true := by simp; omega
              have HP := hid hp
              clear hp hji
              refine (find_any _ C O key _ hM7r hsm hksz).mono ?_
              rintro e wa ⟨rfl, hea⟩
              have y8 := blk2 (hea.heap z8)
              go_wp2_with fail
              refine (find_any _ C (O.set i' n') key _ (hM8r.ext hea) hsm hksz).mono ?_
              rintro e wb ⟨rfl, heb⟩
              go_wp2_with fail
              go_roundw
              case rel => exact ⟨k + 1, by omega, by go_num, rfl, (hxr.trans hea).trans heb⟩
              case measure => simp [intOf]; omega
        · have hp := plc_stop hsrt hj hall (fun h => absurd h hjl)
          obtain rfl : j = C.length := by omega
          go_wp2_with fail
          by_cases hji : C.length = i'
          · have hw2 := whose_set_hit (n := n') hi2 (hp.trans hji)
            subst hji
            have HP := hid hp
            clear hp
            refine (find_any _ C O key _ hM7r hsm hksz).mono ?_
            rintro e wa ⟨rfl, hea⟩
            have y8 := blk2 (hea.heap z8)
            go_wp2_with fail
            refine (find_any _ C (O.set C.length n') key _ (hM8r.ext hea) hsm hksz).mono ?_
            rintro e wb ⟨rfl, heb⟩
            go_wp2_with fail
            go_roundw
            case rel => exact ⟨k + 1, by omega, by go_num, rfl, (hxr.trans hea).trans heb⟩
            case measure => simp [intOf]; omega
          · have hw2 := whose_set_miss (C := C) (O := O) (n := n') (fun h => hji (hp.symm.trans h))
            have g1 : ((C.length : Int) == (i' : Int)) = false := by simp; omega
            have g2 : ((C.length : Int) != (i' : Int)) = true := by simp; omega
            have HP := hid hp
            clear hp hji
            refine (find_any _ C O key _ hM7r hsm hksz).mono ?_
            rintro e wa ⟨rfl, hea⟩
            have y8 := blk2 (hea.heap z8)
            go_wp2_with fail
            refine (find_any _ C (O.set i' n') key _ (hM8r.ext hea) hsm hksz).mono ?_
            rintro e wb ⟨rfl, heb⟩
            go_wp2_with fail
            go_roundw
            case rel => exact ⟨k + 1, by omega, by go_num, rfl, (hxr.trans hea).trans heb⟩
            case measure => simp [intOf]; omega
    · obtain ⟨_, _, hq, hs7, hs7o⟩ := hM7
      injection hq with hq; injection hq with hq; injection hq with hq hq'; subst hq; injection hq' with hq' _; subst hq'
      obtain ⟨b2, off2, rfl, _, hk2, hk2', hc2⟩ := seg_cells hs7o (by omega)
      unfold maxLen at hk2'
      have ci := hxr.cell (hc2 _ _ (cI_at0 O i' hi2))
      have hM7r : IsMap wr (.agg #[.slice a1 C.length k1, .slice (some ⟨b2, off2, none⟩) O.length k2]) C O := ⟨_, _, rfl, hs7.ext hxr, hs7o.ext hxr⟩
      have hM8r := hM8.ext hxr
      clear hc2 hc5
      have hr := mem_range_of ok.own O[i'] (List.getElem_mem hi2)
      have hset : (O.set i' n').set i' O[i'] = O := by rw [List.set_set, List.set_getElem_self]
      have HS := hid hset
      have HL := hid (show (O.set i' n').length = O.length from List.length_set)
      clear hset
      have hz4 : w4.heap.size < wr.heap.size := (Array.getElem?_eq_some_iff.1 z8).1
      have hz2 : w2.heap.size < wr.heap.size := (Array.getElem?_eq_some_iff.1 z7).1
      have hzb : b2 < wr.heap.size := World.block_lt_of_cell? _ _ ci
      have hS0 := hid (show wr.cell? ⟨w4.heap.size, 0, none⟩ = some (.slice a3 C.length k3) ∧ wr.cell? ⟨w4.heap.size, 1, none⟩ = some (.slice a4 O.length k4) ∧ wr.cell? ⟨w2.heap.size, 1, none⟩ = some (.slice (some ⟨b2, off2, none⟩) O.length k2) ∧ wr.cell? ⟨b2, off2 + i', none⟩ = some (.int .i64 O[i']) ∧ Ext wr wr from ⟨x8.1, x8.2.1, x7.2.1, ci, Ext.refl _⟩)
      go_wp2_with fail
      go_region_held3 (fun w' => w'.cell? ⟨w4.heap.size, 0, none⟩ = some (.slice a3 C.length k3) ∧ w'.cell? ⟨w4.heap.size, 1, none⟩ = some (.slice a4 O.length k4) ∧ w'.cell? ⟨w2.heap.size, 1, none⟩ = some (.slice (some ⟨b2, off2, none⟩) O.length k2) ∧ w'.cell? ⟨b2, off2 + i', none⟩ = some (.int .i64 O[i']) ∧ Ext wr w')
        (first
          | (refine keep4 hS0.out ?_; (repeat (first | (with_reducible assumption) | (with_reducible exact Ext.refl _) | (with_reducible refine Ext.drew ?_) | (with_reducible refine Ext.drewN ?_ _) | (with_reducible refine Ext.alloc ?_ _) | (with_reducible refine Ext.trans ?_ (by with_reducible assumption)))); done)
          | (exact keep4 (by assumption) hea)
          | (exact keep4 hSa.out ((Ext.refl _).alloc _))
          | (exact keep4s (keep4s hSa.out ⟨by simp; omega, by simp; omega, by simp; omega, by simp; omega, by simp⟩) ⟨by simp; omega, by simp; omega, by simp; omega, by simp; omega, by simp⟩))
        (first
          | (go_at_call 24; refine (give_ok _ C (O.set i' n') i' O[i'] _ (hM8r.ext ?_) hsm hok2 (by rw [HL.out]; omega) hr.1 hr.2).mono ?_
             (apply And.right; apply And.right; apply And.right; apply And.right; assumption)
             rintro e wa ⟨vx, rfl, hmx, hea⟩
             have hSa := hid (keep4 (by assumption) hea)
             first
               | (have rb := blk2 (hea.heap (heap_alloc_new wr (.cells #[.slice none 0 0, .slice none 0 0] 26))); obtain ⟨rb1, rb2, rb3, rb4⟩ := rb)
               | skip
             rw [HS.out] at hmx
             obtain ⟨a9, k9, a10, k10, rfl, hMx⟩ := hmx.unpack))
      · have hEW : Ext wr (wa.alloc (.cells #[.slice a9 C.length k9, .slice a10 O.length k10] 26)) := by (repeat (first | (with_reducible assumption) | (with_reducible exact Ext.refl _) | (with_reducible refine Ext.drew ?_) | (with_reducible refine Ext.drewN ?_ _) | (with_reducible refine Ext.alloc ?_ _) | (with_reducible refine Ext.trans ?_ (by with_reducible assumption))))
        have hbox := heap_alloc_new wa (.cells #[.slice a9 C.length k9, .slice a10 O.length k10] 26)
        have hMW := hMx.ext ((Ext.refl wa).alloc (.cells #[.slice a9 C.length k9, .slice a10 O.length k10] 26))
        generalize (wa.alloc (.cells #[.slice a9 C.length k9, .slice a10 O.length k10] 26)) = W at hEW hbox hMW ⊢
        have zz7 := blk2 (hEW.heap z7)
        have zb := blk2 hbox
        have hxw := (hx0.trans hxr).trans hEW
        have hM7w := hM7r.ext hEW
        clear hSa hS0 hea hM8r hM7r hmx hMx
        go_wp2_with fail
        refine (sameMap_any _ _ C C O O _ hMW hM7w).mono ?_
        rintro e wz ⟨rfl, hez⟩
        have hsb : sameB C C O O = true := by simp [sameB]
        go_wp2
        go_ret
        exact ⟨rB rfl, hxw.trans hez⟩
      · have hEW : Ext wr ((wa.setCell ⟨wr.heap.size, 0, none⟩ (.slice a9 C.length k9)).setCell ⟨wr.heap.size, 1, none⟩ (.slice a10 O.length k10)) := Ext.setCell (Ext.setCell (by (repeat (first | (with_reducible assumption) | (with_reducible exact Ext.refl _) | (with_reducible refine Ext.drew ?_) | (with_reducible refine Ext.drewN ?_ _) | (with_reducible refine Ext.alloc ?_ _) | (with_reducible refine Ext.trans ?_ (by with_reducible assumption))))) (Nat.le_refl _) _) (Nat.le_refl _) _
        have hbox := blk2_set2 (u := .slice a9 C.length k9) (v := .slice a10 O.length k10) (hea.heap (heap_alloc_new wr (.cells #[.slice none 0 0, .slice none 0 0] 26)))
        have hMW := (hmx.set2 (p := ⟨wr.heap.size, 0, none⟩) (q := ⟨wr.heap.size, 1, none⟩) (u := .slice a9 C.length k9) (u' := .slice a10 O.length k10) (by simp) (by simp)).is
        generalize ((wa.setCell ⟨wr.heap.size, 0, none⟩ (.slice a9 C.length k9)).setCell ⟨wr.heap.size, 1, none⟩ (.slice a10 O.length k10)) = W at hEW hbox hMW ⊢
        have zz7 := blk2 (hEW.heap z7)
        have zb := blk2 hbox
        have hxw := (hx0.trans hxr).trans hEW
        have hM7w := hM7r.ext hEW
        clear hSa hS0 hea hM8r hM7r hmx hMx
        go_wp2_with fail
        refine (sameMap_any _ _ C C O O _ hMW hM7w).mono ?_
        rintro e wz ⟨rfl, hez⟩
        have hsb : sameB C C O O = true := by simp [sameB]
        go_wp2
        go_ret
        exact ⟨rB rfl, hxw.trans hez⟩
end Go.Proofs.Ytijcckhkofkenaa
