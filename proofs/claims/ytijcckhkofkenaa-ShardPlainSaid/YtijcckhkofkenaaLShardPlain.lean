/- Contracts and lemmas for the proofs of this seat; each theorem states its own conditions. -/
import Derived.Test.YtijcckhkofkenaaLShardGives
import Derived.Test.YtijcckhkofkenaaW9
namespace Go.Proofs.Ytijcckhkofkenaa
open Go.RowKit
set_option maxRecDepth 100000 in
set_option maxHeartbeats 1000000 in
theorem plain_walk (v : Value) (l : List Int) (k : Int) (w : World) (hv : Seg w v 1 l.length (cI l)) (hb : ∀ z ∈ l, -9223372036854775808 ≤ z ∧ z ≤ 9223372036854775807) :
    Calls Try.prog 4 #[v, .int .i64 k] w fun e w' => e = .returned (.bool true) ∧ Ext w w' := by
  have ok := mk_ok l
  have hsm := mk_small l
  go_enter Try.func4, Try.ntmps4
  go_wp2_with fail
  refine (shardBegun_any _).mono ?_
  rintro e w1 ⟨rfl, he1⟩
  go_wp2_with fail
  refine (kMap_any _ l _ (hv.ext he1) hb).mono ?_
  generalize mkC l 6 = C at ok hsm ⊢
  generalize mkO l 6 = O at ok ⊢
  rintro e w2 ⟨v', rfl, hm, he2⟩
  obtain ⟨C', O', hC', hO', ok', hsm', hw, ha, htw, hle⟩ : ∃ C' O', (pl C O C.length).1 = C' ∧ (pl C O C.length).2 = O' ∧ MapOk C' O' ∧ (∀ x ∈ C', x.size ≤ 9223372036854775807) ∧ (∀ key, whose C' O' key = whose C O key) ∧ apartO O' ∧ pl C' O' C'.length = (C', O') ∧ C'.length ≤ C.length :=
    ⟨_, _, rfl, rfl, pl_ok ok, pl_small hsm, fun key => pl_whose ok key, pl_apart C O _, by rw [pl_twice ok], pl_le C O _⟩
  obtain ⟨a1, k1, a2, k2, rfl, hM⟩ := hm.unpack
  have hb5 := heap_alloc_new w2 (.cells #[.slice a1 C.length k1, .slice a2 O.length k2] 26)
  have hm5 := hM.ext ((Ext.refl w2).alloc (.cells #[.slice a1 C.length k1, .slice a2 O.length k2] 26))
  have he5 : Ext w (w2.alloc (.cells #[.slice a1 C.length k1, .slice a2 O.length k2] 26)) := by (repeat (first | (with_reducible assumption) | (with_reducible exact Ext.refl _) | (with_reducible refine Ext.drew ?_) | (with_reducible refine Ext.drewN ?_ _) | (with_reducible refine Ext.alloc ?_ _) | (with_reducible refine Ext.trans ?_ (by with_reducible assumption))))
  go_wp2_with fail
  generalize (w2.alloc (.cells #[.slice a1 C.length k1, .slice a2 O.length k2] 26)) = w3 at hb5 hm5 he5 ⊢
  refine (plain_ok _ C O _ hm5 hsm ok).mono ?_
  rw [hC', hO']
  rintro e w4 ⟨v'', rfl, hm2, he4⟩
  obtain ⟨a3, k3, a4, k4, rfl, hM2⟩ := hm2.unpack
  have hb6 := heap_alloc_new w4 (.cells #[.slice a3 C'.length k3, .slice a4 O'.length k4] 26)
  have hm6 := hM2.ext ((Ext.refl w4).alloc (.cells #[.slice a3 C'.length k3, .slice a4 O'.length k4] 26))
  have he6 : Ext w3 (w4.alloc (.cells #[.slice a3 C'.length k3, .slice a4 O'.length k4] 26)) := by (repeat (first | (with_reducible assumption) | (with_reducible exact Ext.refl _) | (with_reducible refine Ext.drew ?_) | (with_reducible refine Ext.drewN ?_ _) | (with_reducible refine Ext.alloc ?_ _) | (with_reducible refine Ext.trans ?_ (by with_reducible assumption))))
  go_wp2_with fail
  generalize (w4.alloc (.cells #[.slice a3 C'.length k3, .slice a4 O'.length k4] 26)) = w5 at hb6 hm6 he6 ⊢
  refine (plain_ok _ C' O' _ hm6 hsm' ok').mono ?_
  rw [htw]
  rintro e w6 ⟨v3, rfl, hm3, he7⟩
  obtain ⟨a5, k5, a6, k6, rfl, hM3⟩ := hm3.unpack
  have hb8 := heap_alloc_new w6 (.cells #[.slice a5 C'.length k5, .slice a6 O'.length k6] 26)
  have hm8 := hM3.ext ((Ext.refl w6).alloc (.cells #[.slice a5 C'.length k5, .slice a6 O'.length k6] 26))
  have he8 : Ext w5 (w6.alloc (.cells #[.slice a5 C'.length k5, .slice a6 O'.length k6] 26)) := by (repeat (first | (with_reducible assumption) | (with_reducible exact Ext.refl _) | (with_reducible refine Ext.drew ?_) | (with_reducible refine Ext.drewN ?_ _) | (with_reducible refine Ext.alloc ?_ _) | (with_reducible refine Ext.trans ?_ (by with_reducible assumption))))
  have hy5 := he8.heap (he6.heap hb5)
  have hy6 := he8.heap hb6
  have hM5 := (hm5.ext he6).ext he8
  have hM6 := hm6.ext he8
  have hx7 := (he5.trans he6).trans he8
  have x5 := blk2 hy5
  have x6 := blk2 hy6
  have x8 := blk2 hb8
  have hsb : sameB C' C' O' O' = true := by simp [sameB]
  have HT := hid (And.intro hC' (And.intro hO' htw))
  clear hb5 hb6 hC' hO' htw hm hm2 hm3 hM hM2 hM3 he4 he7 he2 he1 hm5 hm6
  go_wp2_with fail
  clear x5 x6 x8
  generalize (w6.alloc (.cells #[.slice a5 C'.length k5, .slice a6 O'.length k6] 26)) = w7 at hb8 hm8 he8 hy5 hy6 hM5 hM6 hx7 ⊢
  refine (sameMap_any _ _ C' C' O' O' _ hM6 hm8).mono ?_
  rintro e w8 ⟨rfl, he9⟩
  rw [hsb]
  have z5 := he9.heap hy5
  have z6 := he9.heap hy6
  have hM5' := hM5.ext he9
  have hM6' := hM6.ext he9
  have hx8 := hx7.trans he9
  have x5 := blk2 z5
  have x6 := blk2 z6
  clear hy5 hy6 hM5 hM6 hx7 hb8 hm8 he9 he8 he6 he5
  obtain ⟨_, _, hq, hs6, hs6o⟩ := hM6'
  injection hq with hq; injection hq with hq; injection hq with hq hq'; subst hq; injection hq' with hq' _; subst hq'
  have hl6 : C'.length + 1 = O'.length := by have := ok'.len; omega
  have hl7 : C'.length ≤ 12 := ok'.few
  obtain ⟨b4, off4, rfl, _, hk4, hk4', hc4⟩ := seg_cells hs6o (by omega)
  unfold maxLen at hk4'
  go_wp2_with fail
  go_loopw [10] (fun x wr => ∃ j : Nat, j + 1 ≤ O'.length ∧ x = .int .i64 (j + 1 : Nat) ∧ Ext w8 wr) (fun x _ => O'.length - (intOf x).toNat)
  case atStart => exact ⟨0, by omega, rfl, Ext.refl _⟩
  case round =>
    obtain ⟨j, hj, rfl, hxr⟩ := hrel
    have z5r := hxr.heap z5
    have z6r := hxr.heap z6
    have x5r := blk2 z5r
    have x6r := blk2 z6r
    clear x5 x6
    by_cases hjl : j + 1 < O'.length
    · have c0 := hxr.cell <| hc4 _ _ (cI_at0 O' j (by omega))
      have c1 := hxr.cell <| hc4 _ _ (cI_at0 O' (j + 1) hjl)
      have hne := ha j hjl
      have g0 : O'.getD j 0 = O'[j] := by simp [show j < O'.length by omega]
      have g1 : O'.getD (j + 1) 0 = O'[j + 1] := by simp [hjl]
      rw [g0, g1] at hne
      have hne' : (O'[j + 1] == O'[j]) = false := by simp [hne]
      have q1 : IntKind.i64.wrap (((j + 1 : Nat) : Int) - 1) = (j : Int) := by rw [IntKind.wrap_i64]; omega
      clear hc4 g0 g1
      go_wp2_with fail
      go_quiet (fail)
      go_wp2_with fail
      go_roundw
      case rel => exact ⟨j + 1, by omega, by go_num, by (repeat (first | (with_reducible assumption) | (with_reducible exact Ext.refl _) | (with_reducible refine Ext.drew ?_) | (with_reducible refine Ext.drewN ?_ _) | (with_reducible refine Ext.alloc ?_ _) | (with_reducible refine Ext.trans ?_ (by with_reducible assumption))))⟩
      case measure => simp [intOf]; omega
    · have hks : (keyOf k).size ≤ 9223372036854775807 := by
        have h0 := wi_lo (k := k) (n := 8) (by omega)
        have h1 := wi_hi (k := k) (n := 8) (by omega)
        have h2 : (wi k 8).toNat < keysL.length := by simp [keysL]; omega
        have : ∀ k, (h : k < keysL.length) → keysL[k].size ≤ 2 := by decide +kernel
        have := this _ h2
        unfold keyOf
        rw [kAt_eq h2]; omega
      have hkb : keyB (keyOf k) = true := by
        have h0 := wi_lo (k := k) (n := 8) (by omega)
        have h1 := wi_hi (k := k) (n := 8) (by omega)
        have h2 : (wi k 8).toNat < keysL.length := by simp [keysL]; omega
        have : ∀ k, (h : k < keysL.length) → keyB keysL[k] = true := by decide +kernel
        have := this _ h2
        unfold keyOf
        rw [kAt_eq h2]; exact this
      have kk := mapErr_ok ok
      have kk2 := mapErr_ok ok'
      have fv : findV C O (keyOf k) = whose C O (keyOf k) := by simp [findV, kk, hkb]
      have fe : findE C O (keyOf k) = 0 := by simp [findE, kk, hkb]
      have fv2 : findV C' O' (keyOf k) = whose C O (keyOf k) := by simp [findV, kk2, hkb, hw]
      have fe2 : findE C' O' (keyOf k) = 0 := by simp [findE, kk2, hkb]
      have hM5r := hM5'.ext hxr
      have hM6r : IsMap wr (.agg #[.slice a3 C'.length k3, .slice (some ⟨b4, off4, none⟩) O'.length k4]) C' O' := ⟨_, _, rfl, hs6.ext hxr, hs6o.ext hxr⟩
      have hS0 := hid (show wr.cell? ⟨w2.heap.size, 0, none⟩ = some (.slice a1 C.length k1) ∧ wr.cell? ⟨w2.heap.size, 1, none⟩ = some (.slice a2 O.length k2) ∧ Ext wr wr from ⟨x5r.1, x5r.2.1, Ext.refl _⟩)
      clear hc4 hw ha hM5'
      go_wp2_with fail
      go_region_held3 (fun w' => w'.cell? ⟨w2.heap.size, 0, none⟩ = some (.slice a1 C.length k1) ∧ w'.cell? ⟨w2.heap.size, 1, none⟩ = some (.slice a2 O.length k2) ∧ Ext wr w')
        (first
          | (refine keep2 hS0.out ?_; (repeat (first | (with_reducible assumption) | (with_reducible exact Ext.refl _) | (with_reducible refine Ext.drew ?_) | (with_reducible refine Ext.drewN ?_ _) | (with_reducible refine Ext.alloc ?_ _) | (with_reducible refine Ext.trans ?_ (by with_reducible assumption)))); done)
          | (exact keep2 (by assumption) hea))
        (first
          | (go_at_call 29; refine (kKey_any _ _).mono ?_; rintro e wa ⟨rfl, hea⟩)
          | (go_at_call 26; refine (find_any _ C O _ _ (hM5r.ext ?_) hsm hks).mono ?_
             (apply And.right; apply And.right; assumption)
             rintro e wa ⟨rfl, hea⟩
             have hEA := hid (Ext.trans (show Ext wr _ by apply And.right; apply And.right; assumption) hea)))
      have hEB := hEA.out
      clear hEA hea hS0 hM5r z5 z5r x5r x6r
      have x6a := blk2 (hEB.heap z6r)
      have hM6a := hM6r.ext hEB
      have hxa := (hx8.trans hxr).trans hEB
      have hS1 := hid (show wa.cell? ⟨w4.heap.size, 0, none⟩ = some (.slice a3 C'.length k3) ∧ wa.cell? ⟨w4.heap.size, 1, none⟩ = some (.slice (some ⟨b4, off4, none⟩) O'.length k4) ∧ Ext wa wa from ⟨x6a.1, x6a.2.1, Ext.refl _⟩)
      go_wp2_with fail
      go_region_held3 (fun w' => w'.cell? ⟨w4.heap.size, 0, none⟩ = some (.slice a3 C'.length k3) ∧ w'.cell? ⟨w4.heap.size, 1, none⟩ = some (.slice (some ⟨b4, off4, none⟩) O'.length k4) ∧ Ext wa w')
        (first
          | (refine keep2 hS1.out ?_; (repeat (first | (with_reducible assumption) | (with_reducible exact Ext.refl _) | (with_reducible refine Ext.drew ?_) | (with_reducible refine Ext.drewN ?_ _) | (with_reducible refine Ext.alloc ?_ _) | (with_reducible refine Ext.trans ?_ (by with_reducible assumption)))); done)
          | (exact keep2 (by assumption) hea))
        (first
          | (go_at_call 29; refine (kKey_any _ _).mono ?_; rintro e wb ⟨rfl, hea⟩)
          | (go_at_call 26; refine (find_any _ C' O' _ _ (hM6a.ext ?_) hsm' hks).mono ?_
             (apply And.right; apply And.right; assumption)
             rintro e wb ⟨rfl, hea⟩
             have hEA := hid (Ext.trans (show Ext wa _ by apply And.right; apply And.right; assumption) hea)))
      have hEC := hxa.trans hEA.out
      clear hEA hea hS1 hM6r hM6a hxa hEB hxr hx8 x6a z6 z6r
      go_wp2
      go_ret
      exact ⟨rB rfl, hEC⟩
end Go.Proofs.Ytijcckhkofkenaa
