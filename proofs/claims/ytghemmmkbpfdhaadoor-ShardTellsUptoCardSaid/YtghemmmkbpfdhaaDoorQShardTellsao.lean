/- Contracts and lemmas for the proof of ShardTells; each theorem states its own conditions. -/
import Derived.Test.YtghemmmkbpfdhaaDoorQShardTellsan
import Derived.Test.YtghemmmkbpfdhaaDoorQShardTellsab
import Derived.Test.YtghemmmkbpfdhaaDoorQShardTellsaa
import Derived.Test.YtghemmmkbpfdhaaDoorProg
import Derived.Shelf.Abstract
set_option linter.unusedVariables false
set_option linter.unusedSimpArgs false
/- Contracts and lemmas for the proofs of this seat; each theorem states its own conditions. -/
namespace Go.Proofs.YtghemmmkbpfdhaaDoor
open Go.RowKit
set_option maxRecDepth 100000 in
set_option maxHeartbeats 1000000 in
theorem same_ok (v u : Value) (C C2 : List ByteArray) (O O2 : List Int) (w : World) (hv : IsMap w v C O) (hu : IsMap w u C2 O2) (hk : ∀ k ∈ C, k.size ≤ 9223372036854775807) (hk2 : ∀ k ∈ C2, k.size ≤ 9223372036854775807) (ok : MapOk C O) (ok2 : MapOk C2 O2) :
    Calls Tryd.prog 40 #[v, u] w fun e w' => e = .returned (.tuple #[.bool (sameB (pl C O C.length).1 (pl C2 O2 C2.length).1 (pl C O C.length).2 (pl C2 O2 C2.length).2), .int .i64 0]) ∧ Ext w w' := by
  obtain ⟨a1, k1, a2, k2, rfl, h1, h2⟩ := hv.unpack
  obtain ⟨a3, k3, a4, k4, rfl, h3, h4⟩ := hu.unpack
  have hb0 := heap_1 w (.cells #[.slice a1 C.length k1, .slice a2 O.length k2] 28) (.cells #[.slice a3 C2.length k3, .slice a4 O2.length k4] 28)
  have hb1 := heap_2 w (.cells #[.slice a1 C.length k1, .slice a2 O.length k2] 28) (.cells #[.slice a3 C2.length k3, .slice a4 O2.length k4] 28)
  have x0 := blk2 hb0
  have x1 := blk2 hb1
  go_enter Tryd.func40, Tryd.ntmps40
  go_wp2_with fail
  have hE := ((Ext.refl w).alloc (.cells #[.slice a1 C.length k1, .slice a2 O.length k2] 28)).alloc (.cells #[.slice a3 C2.length k3, .slice a4 O2.length k4] 28)
  have m1 := hv.ext hE
  have m2 := hu.ext hE
  have hz : w.heap.size + 2 = ((w.alloc (.cells #[.slice a1 C.length k1, .slice a2 O.length k2] 28)).alloc (.cells #[.slice a3 C2.length k3, .slice a4 O2.length k4] 28)).heap.size := by simp
  clear x0 x1
  generalize ((w.alloc (.cells #[.slice a1 C.length k1, .slice a2 O.length k2] 28)).alloc (.cells #[.slice a3 C2.length k3, .slice a4 O2.length k4] 28)) = w1 at hb0 hb1 hE m1 m2 hz ⊢
  refine (plain_ok _ C O _ m1 hk ok).mono ?_
  rintro e w2 ⟨v', rfl, hm, he2⟩
  generalize hC1 : (pl C O C.length).1 = C' at hm ⊢
  generalize hC2 : (pl C O C.length).2 = O' at hm ⊢
  have HA := hid (And.intro hC1 hC2)
  clear hC1 hC2
  obtain ⟨a5, k5, a6, k6, rfl, hM⟩ := hm.unpack
  have hb6 := heap_alloc_new w2 (.cells #[.slice a5 C'.length k5, .slice a6 O'.length k6] 28)
  have hE6 : Ext w1 (w2.alloc (.cells #[.slice a5 C'.length k5, .slice a6 O'.length k6] 28)) := by (repeat (first | (with_reducible assumption) | (with_reducible exact Ext.refl _) | (with_reducible refine Ext.drew ?_) | (with_reducible refine Ext.drewN ?_ _) | (with_reducible refine Ext.alloc ?_ _) | (with_reducible refine Ext.trans ?_ (by with_reducible assumption))))
  have m6 := hM.ext ((Ext.refl w2).alloc (.cells #[.slice a5 C'.length k5, .slice a6 O'.length k6] 28))
  have x1 := blk2 (hE6.heap hb1)
  go_wp2_with fail
  clear x1
  generalize (w2.alloc (.cells #[.slice a5 C'.length k5, .slice a6 O'.length k6] 28)) = w3 at hb6 hE6 m6 ⊢
  refine (plain_ok _ C2 O2 _ (m2.ext hE6) hk2 ok2).mono ?_
  rintro e w4 ⟨v'', rfl, hm2, he4⟩
  generalize hC1 : (pl C2 O2 C2.length).1 = C3 at hm2 ⊢
  generalize hC2 : (pl C2 O2 C2.length).2 = O3 at hm2 ⊢
  have HB := hid (And.intro hC1 hC2)
  clear hC1 hC2
  obtain ⟨a7, k7, a8, k8, rfl, hM2⟩ := hm2.unpack
  have hb8 := heap_alloc_new w4 (.cells #[.slice a7 C3.length k7, .slice a8 O3.length k8] 28)
  have hE8 : Ext w3 (w4.alloc (.cells #[.slice a7 C3.length k7, .slice a8 O3.length k8] 28)) := by (repeat (first | (with_reducible assumption) | (with_reducible exact Ext.refl _) | (with_reducible refine Ext.drew ?_) | (with_reducible refine Ext.drewN ?_ _) | (with_reducible refine Ext.alloc ?_ _) | (with_reducible refine Ext.trans ?_ (by with_reducible assumption))))
  have m8 := hM2.ext ((Ext.refl w4).alloc (.cells #[.slice a7 C3.length k7, .slice a8 O3.length k8] 28))
  have y6 := hE8.heap hb6
  have m6' := m6.ext hE8
  have x6 := blk2 y6
  have x8 := blk2 hb8
  have hEE := (hE.trans hE6).trans hE8
  obtain ⟨_, _, hq, n1, n2⟩ := m6'
  injection hq with hq; injection hq with hq; injection hq with hq hq'; subst hq; injection hq' with hq' _; subst hq'
  obtain ⟨_, _, hq, n3, n4⟩ := m8
  injection hq with hq; injection hq with hq; injection hq with hq hq'; subst hq; injection hq' with hq' _; subst hq'
  have EQ := hid (show sameB C' C3 O' O3 = (decide (C' = C3) && decide (O' = O3)) from rfl)
  go_wp2_with fail
  clear x6 x8
  generalize (w4.alloc (.cells #[.slice a7 C3.length k7, .slice a8 O3.length k8] 28)) = w5 at hb8 hE8 y6 hEE n1 n2 n3 n4 ⊢
  refine (equal_Str _ _ C' C3 _ n1 n3).mono ?_
  rintro e w6 ⟨rfl, d, rfl⟩
  have x6 := blk2 y6
  have x8 := blk2 hb8
  by_cases g : C' = C3
  · have q : decide (C' = C3) = true := by simp [g]
    have E1 := hid (show sameB C' C3 O' O3 = decide (O' = O3) by simp [sameB, g])
    clear g
    go_wp2_with fail
    refine (equal_Int _ _ O' O3 _ (n2.ext ((Ext.refl w5).drewN d)) (n4.ext ((Ext.refl w5).drewN d))).mono ?_
    rintro e w7 ⟨rfl, d', rfl⟩
    go_wp2
    go_ret2
    exact ⟨rT2 (vB (by rw [HA.out.1, HA.out.2, HB.out.1, HB.out.2]; exact E1.out.symm)) rfl, by (repeat (first | (with_reducible assumption) | (with_reducible exact Ext.refl _) | (with_reducible refine Ext.drew ?_) | (with_reducible refine Ext.drewN ?_ _) | (with_reducible refine Ext.alloc ?_ _) | (with_reducible refine Ext.trans ?_ (by with_reducible assumption))))⟩
  · have q : decide (C' = C3) = false := by simp [g]
    have E1 := hid (show sameB C' C3 O' O3 = false by simp [sameB, g])
    clear g
    go_wp2
    go_ret2
    exact ⟨rT2 (vB (by rw [HA.out.1, HA.out.2, HB.out.1, HB.out.2]; exact E1.out.symm)) rfl, by (repeat (first | (with_reducible assumption) | (with_reducible exact Ext.refl _) | (with_reducible refine Ext.drew ?_) | (with_reducible refine Ext.drewN ?_ _) | (with_reducible refine Ext.alloc ?_ _) | (with_reducible refine Ext.trans ?_ (by with_reducible assumption))))⟩
end Go.Proofs.YtghemmmkbpfdhaaDoor

/- Contracts and lemmas for the proofs of this seat; each theorem states its own conditions. -/
namespace Go.Proofs.YtghemmmkbpfdhaaDoor
open Go.RowKit
/-! slices.IndexFunc, slices.ContainsFunc: a closure by its contract -/
def firstI {α : Type} (p : α → Bool) : List α → Nat → Int
  | [], _ => -1
  | x :: l, i => if p x then (i : Int) else firstI p l (i + 1)
theorem firstI_hit {α : Type} {p : α → Bool} : ∀ {l : List α} {i k : Nat} (hk : k < l.length), (∀ j (h : j < k), p (l[j]'(by omega)) = false) → p l[k] = true → firstI p l i = ((i + k : Nat) : Int)
  | [], _, _, hk, _, _ => by simp at hk
  | x :: l, i, 0, _, _, h => by simp at h; simp [firstI, h]
  | x :: l, i, k + 1, hk, hj, h => by
    have h0 := hj 0 (by omega)
    simp at h0
    rw [firstI, if_neg (by simp [h0]), firstI_hit (k := k) (by simpa using hk) (fun j h' => by simpa using hj (j + 1) (by omega)) (by simpa using h)]
    congr 1; omega
theorem firstI_miss {α : Type} {p : α → Bool} : ∀ {l : List α} {i : Nat}, (∀ x ∈ l, p x = false) → firstI p l i = -1
  | [], _, _ => rfl
  | x :: l, i, h => by rw [firstI, if_neg (by simp [h x (by simp)]), firstI_miss fun y hy => h y (by simp [hy])]
theorem firstI_any {α : Type} {p : α → Bool} : ∀ {l : List α} {i : Nat}, (decide (0 ≤ firstI p l i)) = l.any p
  | [], _ => by simp [firstI]
  | x :: l, i => by
    rw [firstI, List.any_cons]
    cases h : p x with
    | true => simp
    | false => simp [firstI_any (l := l)]
theorem cS_at' (l : List ByteArray) (k : Nat) (hk : k < l.length) : (cS l)[k]? = some (.string l[k]) := by simp [cS, hk]
set_option maxRecDepth 10000 in
set_option maxHeartbeats 1000000 in
theorem indexF_Str (fn : Nat) (cs : Array Value) (hen : ∀ args w, (callFunc fn args).run Tryd.prog w = .ok (.enter fn args) w) (p : ByteArray → Bool) (v : Value) (L : List ByteArray) (w : World) (hv : Seg w v 1 L.length (cS L))
    (hc : ∀ x ∈ L, ∀ w', Ext w w' → Calls Tryd.prog fn (#[.string x] ++ cs) w' fun e w'' => e = .returned (.bool (p x)) ∧ Ext w' w'') :
    Calls Tryd.prog 53 #[v, .func (.func fn) #[] cs] w fun e w' => e = .returned (.int .i64 (firstI p L 0)) ∧ Ext w w' := by
  obtain ⟨h0, a, cap, rfl, h1, h2, h3⟩ := hv
  unfold maxLen at h2
  have H3 := hid h3
  have HC := hid hc
  clear h3 hc h0
  go_enter Tryd.func53, Tryd.ntmps53
  go_wp2
  go_loopw [5, 8] (fun _ i wr => ∃ k : Nat, k ≤ L.length ∧ i = .int .i64 k ∧ (∀ j (h : j < L.length), j < k → p L[j] = false) ∧ Ext w wr) (fun _ i _ => L.length - (intOf i).toNat)
  case atStart => exact ⟨0, Nat.zero_le _, rfl, fun j _ h => by omega, Ext.refl _⟩
  case round =>
    obtain ⟨k, hk, rfl, hn, E⟩ := hrel
    have HN := hid hn
    clear hn
    by_cases hlt : k < L.length
    · obtain ⟨b, off, rfl, hcell⟩ := H3.out (by omega)
      have x0 := E.cell (hcell k _ (cS_at' L k hlt))
      have C := HC.out L[k] (List.getElem_mem hlt) wr E
      have e0 : (#[Value.string L[k]] ++ cs) = (#[Value.string L[k]] ++ cs) := rfl
      cases hp : p L[k] with
      | true =>
        rw [hp] at C
        have C := hid C
        have hi : firstI p L 0 = (k : Int) := by
          have := firstI_hit (i := 0) hlt (fun j h' => HN.out j (by omega) h') hp
          simpa using this
        have HI := hid hi
        clear hi hcell e0
        go_wp2_with (first | (go_at_fn fn; refine (C.out).mono ?_; rintro e wa ⟨rfl, Ea⟩))
        go_ret
        exact ⟨rI HI.out.symm, E.trans Ea⟩
      | false =>
        rw [hp] at C
        have C := hid C
        have HP := hid hp
        clear hcell e0 hp
        go_wp2_with (first | (go_at_fn fn; refine (C.out).mono ?_; rintro e wa ⟨rfl, Ea⟩))
        go_roundw
        case rel => exact ⟨k + 1, by omega, by go_num, fun j hj h => by
          rcases Nat.lt_or_ge j k with h' | h'
          · exact HN.out j hj h'
          · have : j = k := by omega
            subst this; exact HP.out, E.trans Ea⟩
        case measure => simp [intOf]; omega
    · obtain rfl : k = L.length := by omega
      have hi : firstI p L 0 = -1 := firstI_miss fun x hx => by
        obtain ⟨j, hj, rfl⟩ := List.mem_iff_getElem.1 hx
        exact HN.out j hj hj
      have HI := hid hi
      clear hi
      go_wp2
      go_ret
      exact ⟨rI HI.out.symm, E⟩
set_option maxHeartbeats 1000000 in
theorem containsF_Str (fn : Nat) (cs : Array Value) (hen : ∀ args w, (callFunc fn args).run Tryd.prog w = .ok (.enter fn args) w) (p : ByteArray → Bool) (v : Value) (L : List ByteArray) (w : World) (hv : Seg w v 1 L.length (cS L))
    (hc : ∀ x ∈ L, ∀ w', Ext w w' → Calls Tryd.prog fn (#[.string x] ++ cs) w' fun e w'' => e = .returned (.bool (p x)) ∧ Ext w' w'') :
    Calls Tryd.prog 10 #[v, .func (.func fn) #[] cs] w fun e w' => e = .returned (.bool (L.any p)) ∧ Ext w w' := by
  have C := hid (indexF_Str fn cs hen p v L w hv hc)
  have HA := hid (firstI_any (p := p) (l := L) (i := 0))
  generalize firstI p L 0 = z at C HA
  clear hc hv
  go_enter Tryd.func10, Tryd.ntmps10
  go_wp2_with fail
  refine (C.out).mono ?_
  rintro e wa ⟨rfl, Ea⟩
  go_wp2
  go_ret
  exact ⟨rB (by rw [← HA.out]), Ea⟩
end Go.Proofs.YtghemmmkbpfdhaaDoor
