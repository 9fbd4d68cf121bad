/- Contracts and lemmas for the proofs of this seat; each theorem states its own conditions. -/
import Derived.Test.YtijcckhkofkenaaW9
namespace Go.Proofs.Ytijcckhkofkenaa
open Go.RowKit
set_option maxRecDepth 100000 in
set_option maxHeartbeats 1000000 in
theorem same_ok (v u : Value) (C C2 : List ByteArray) (O O2 : List Int) (w : World) (hv : IsMap w v C O) (hu : IsMap w u C2 O2) (hk : ∀ k ∈ C, k.size ≤ 9223372036854775807) (hk2 : ∀ k ∈ C2, k.size ≤ 9223372036854775807) (ok : MapOk C O) (ok2 : MapOk C2 O2) :
    Calls Try.prog 44 #[v, u] w fun e w' => e = .returned (.tuple #[.bool (sameB (pl C O C.length).1 (pl C2 O2 C2.length).1 (pl C O C.length).2 (pl C2 O2 C2.length).2), .int .i64 0]) ∧ Ext w w' := by
  obtain ⟨a1, k1, a2, k2, rfl, h1, h2⟩ := hv.unpack
  obtain ⟨a3, k3, a4, k4, rfl, h3, h4⟩ := hu.unpack
  have hb0 := heap_1 w (.cells #[.slice a1 C.length k1, .slice a2 O.length k2] 26) (.cells #[.slice a3 C2.length k3, .slice a4 O2.length k4] 26)
  have hb1 := heap_2 w (.cells #[.slice a1 C.length k1, .slice a2 O.length k2] 26) (.cells #[.slice a3 C2.length k3, .slice a4 O2.length k4] 26)
  have x0 := blk2 hb0
  have x1 := blk2 hb1
  go_enter Try.func44, Try.ntmps44
  go_wp2_with fail
  have hE := ((Ext.refl w).alloc (.cells #[.slice a1 C.length k1, .slice a2 O.length k2] 26)).alloc (.cells #[.slice a3 C2.length k3, .slice a4 O2.length k4] 26)
  have m1 := hv.ext hE
  have m2 := hu.ext hE
  have hz : w.heap.size + 2 = ((w.alloc (.cells #[.slice a1 C.length k1, .slice a2 O.length k2] 26)).alloc (.cells #[.slice a3 C2.length k3, .slice a4 O2.length k4] 26)).heap.size := by simp
  clear x0 x1
  generalize ((w.alloc (.cells #[.slice a1 C.length k1, .slice a2 O.length k2] 26)).alloc (.cells #[.slice a3 C2.length k3, .slice a4 O2.length k4] 26)) = w1 at hb0 hb1 hE m1 m2 hz ⊢
  refine (plain_ok _ C O _ m1 hk ok).mono ?_
  rintro e w2 ⟨v', rfl, hm, he2⟩
  generalize hC1 : (pl C O C.length).1 = C' at hm ⊢
  generalize hC2 : (pl C O C.length).2 = O' at hm ⊢
  have HA := hid (And.intro hC1 hC2)
  clear hC1 hC2
  obtain ⟨a5, k5, a6, k6, rfl, hM⟩ := hm.unpack
  have hb6 := heap_alloc_new w2 (.cells #[.slice a5 C'.length k5, .slice a6 O'.length k6] 26)
  have hE6 : Ext w1 (w2.alloc (.cells #[.slice a5 C'.length k5, .slice a6 O'.length k6] 26)) := by (repeat (first | (with_reducible assumption) | (with_reducible exact Ext.refl _) | (with_reducible refine Ext.drew ?_) | (with_reducible refine Ext.drewN ?_ _) | (with_reducible refine Ext.alloc ?_ _) | (with_reducible refine Ext.trans ?_ (by with_reducible assumption))))
  have m6 := hM.ext ((Ext.refl w2).alloc (.cells #[.slice a5 C'.length k5, .slice a6 O'.length k6] 26))
  have x1 := blk2 (hE6.heap hb1)
  go_wp2_with fail
  clear x1
  generalize (w2.alloc (.cells #[.slice a5 C'.length k5, .slice a6 O'.length k6] 26)) = w3 at hb6 hE6 m6 ⊢
  refine (plain_ok _ C2 O2 _ (m2.ext hE6) hk2 ok2).mono ?_
  rintro e w4 ⟨v'', rfl, hm2, he4⟩
  generalize hC1 : (pl C2 O2 C2.length).1 = C3 at hm2 ⊢
  generalize hC2 : (pl C2 O2 C2.length).2 = O3 at hm2 ⊢
  have HB := hid (And.intro hC1 hC2)
  clear hC1 hC2
  obtain ⟨a7, k7, a8, k8, rfl, hM2⟩ := hm2.unpack
  have hb8 := heap_alloc_new w4 (.cells #[.slice a7 C3.length k7, .slice a8 O3.length k8] 26)
  have hE8 : Ext w3 (w4.alloc (.cells #[.slice a7 C3.length k7, .slice a8 O3.length k8] 26)) := by (repeat (first | (with_reducible assumption) | (with_reducible exact Ext.refl _) | (with_reducible refine Ext.drew ?_) | (with_reducible refine Ext.drewN ?_ _) | (with_reducible refine Ext.alloc ?_ _) | (with_reducible refine Ext.trans ?_ (by with_reducible assumption))))
  have m8 := hM2.ext ((Ext.refl w4).alloc (.cells #[.slice a7 C3.length k7, .slice a8 O3.length k8] 26))
  have y6 := hE8.heap hb6
  have m6' := m6.ext hE8
  have x6 := blk2 y6
  have x8 := blk2 hb8
  have hEE := (hE.trans hE6).trans hE8
  obtain ⟨_, _, hq, n1, n2⟩ := m6'
  injection hq with hq; injection hq with hq; injection hq with hq hq'; subst hq; injection hq' with hq' _; subst hq'
  obtain ⟨_, _, hq, n3, n4⟩ := m8
  injection hq with hq; injection hq with hq; injection hq with hq hq'; subst hq; injection hq' with hq' _; subst hq'
  have EQ := hid (show sameB C' C3 O' O3 = (decide (C' = C3) && decide (O' = O3)) from rfl)
  go_wp2_with fail
  clear x6 x8
  generalize (w4.alloc (.cells #[.slice a7 C3.length k7, .slice a8 O3.length k8] 26)) = w5 at hb8 hE8 y6 hEE n1 n2 n3 n4 ⊢
  refine (equal_Str _ _ C' C3 _ n1 n3).mono ?_
  rintro e w6 ⟨rfl, d, rfl⟩
  have x6 := blk2 y6
  have x8 := blk2 hb8
  by_cases g : C' = C3
  · have q : decide (C' = C3) = true := by simp [g]
    have E1 := hid (show sameB C' C3 O' O3 = decide (O' = O3) by simp [sameB, g])
    clear g
    go_wp2_with fail
    refine (equal_Int _ _ O' O3 _ (n2.ext ((Ext.refl w5).drewN d)) (n4.ext ((Ext.refl w5).drewN d))).mono ?_
    rintro e w7 ⟨rfl, d', rfl⟩
    go_wp2
    go_ret2
    exact ⟨rT2 (vB (by rw [HA.out.1, HA.out.2, HB.out.1, HB.out.2]; exact E1.out.symm)) rfl, by (repeat (first | (with_reducible assumption) | (with_reducible exact Ext.refl _) | (with_reducible refine Ext.drew ?_) | (with_reducible refine Ext.drewN ?_ _) | (with_reducible refine Ext.alloc ?_ _) | (with_reducible refine Ext.trans ?_ (by with_reducible assumption))))⟩
  · have q : decide (C' = C3) = false := by simp [g]
    have E1 := hid (show sameB C' C3 O' O3 = false by simp [sameB, g])
    clear g
    go_wp2
    go_ret2
    exact ⟨rT2 (vB (by rw [HA.out.1, HA.out.2, HB.out.1, HB.out.2]; exact E1.out.symm)) rfl, by (repeat (first | (with_reducible assumption) | (with_reducible exact Ext.refl _) | (with_reducible refine Ext.drew ?_) | (with_reducible refine Ext.drewN ?_ _) | (with_reducible refine Ext.alloc ?_ _) | (with_reducible refine Ext.trans ?_ (by with_reducible assumption))))⟩
end Go.Proofs.Ytijcckhkofkenaa
