/- Contracts and lemmas for the proof of ShardSays; each theorem states its own conditions. -/
import Derived.Test.YtghemmmkbpfdhaaDoorQShardSaysam
import Derived.Shelf.Spec.SlicesInsert
import Derived.Shelf.Spec.SlicesInsertGrow
import Derived.Shelf.Slices.Turned
import Derived.Shelf.Slices.Empties2
import Derived.Ground.Names2Prog
import Derived.Test.YtghemmmkbpfdhaaDoorProg
import Derived.Test.YtghemmmkbpfdhaaDoorQShardSaysaa
import Derived.Laws.IdiomCopy
set_option linter.unusedVariables false
set_option linter.unusedSimpArgs false
/- Contracts and lemmas for the proofs of this seat; each theorem states its own conditions. -/
namespace Go.Proofs.YtghemmmkbpfdhaaDoor
open Go.RowKit
set_option maxRecDepth 100000 in
set_option maxHeartbeats 1000000 in
theorem same_ok (v u : Value) (C C2 : List ByteArray) (O O2 : List Int) (w : World) (hv : IsMap w v C O) (hu : IsMap w u C2 O2) (hk : ∀ k ∈ C, k.size ≤ 9223372036854775807) (hk2 : ∀ k ∈ C2, k.size ≤ 9223372036854775807) (ok : MapOk C O) (ok2 : MapOk C2 O2) :
    Calls Tryd.prog 40 #[v, u] w fun e w' => e = .returned (.tuple #[.bool (sameB (pl C O C.length).1 (pl C2 O2 C2.length).1 (pl C O C.length).2 (pl C2 O2 C2.length).2), .int .i64 0]) ∧ Ext w w' := by
  obtain ⟨a1, k1, a2, k2, rfl, h1, h2⟩ := hv.unpack
  obtain ⟨a3, k3, a4, k4, rfl, h3, h4⟩ := hu.unpack
  have hb0 := heap_1 w (.cells #[.slice a1 C.length k1, .slice a2 O.length k2] 28) (.cells #[.slice a3 C2.length k3, .slice a4 O2.length k4] 28)
  have hb1 := heap_2 w (.cells #[.slice a1 C.length k1, .slice a2 O.length k2] 28) (.cells #[.slice a3 C2.length k3, .slice a4 O2.length k4] 28)
  have x0 := blk2 hb0
  have x1 := blk2 hb1
  go_enter Tryd.func40, Tryd.ntmps40
  go_wp2_with fail
  have hE := ((Ext.refl w).alloc (.cells #[.slice a1 C.length k1, .slice a2 O.length k2] 28)).alloc (.cells #[.slice a3 C2.length k3, .slice a4 O2.length k4] 28)
  have m1 := hv.ext hE
  have m2 := hu.ext hE
  have hz : w.heap.size + 2 = ((w.alloc (.cells #[.slice a1 C.length k1, .slice a2 O.length k2] 28)).alloc (.cells #[.slice a3 C2.length k3, .slice a4 O2.length k4] 28)).heap.size := by simp
  clear x0 x1
  generalize ((w.alloc (.cells #[.slice a1 C.length k1, .slice a2 O.length k2] 28)).alloc (.cells #[.slice a3 C2.length k3, .slice a4 O2.length k4] 28)) = w1 at hb0 hb1 hE m1 m2 hz ⊢
  refine (plain_ok _ C O _ m1 hk ok).mono ?_
  rintro e w2 ⟨v', rfl, hm, he2⟩
  generalize hC1 : (pl C O C.length).1 = C' at hm ⊢
  generalize hC2 : (pl C O C.length).2 = O' at hm ⊢
  have HA := hid (And.intro hC1 hC2)
  clear hC1 hC2
  obtain ⟨a5, k5, a6, k6, rfl, hM⟩ := hm.unpack
  have hb6 := heap_alloc_new w2 (.cells #[.slice a5 C'.length k5, .slice a6 O'.length k6] 28)
  have hE6 : Ext w1 (w2.alloc (.cells #[.slice a5 C'.length k5, .slice a6 O'.length k6] 28)) := by (repeat (first | (with_reducible assumption) | (with_reducible exact Ext.refl _) | (with_reducible refine Ext.drew ?_) | (with_reducible refine Ext.drewN ?_ _) | (with_reducible refine Ext.alloc ?_ _) | (with_reducible refine Ext.trans ?_ (by with_reducible assumption))))
  have m6 := hM.ext ((Ext.refl w2).alloc (.cells #[.slice a5 C'.length k5, .slice a6 O'.length k6] 28))
  have x1 := blk2 (hE6.heap hb1)
  go_wp2_with fail
  clear x1
  generalize (w2.alloc (.cells #[.slice a5 C'.length k5, .slice a6 O'.length k6] 28)) = w3 at hb6 hE6 m6 ⊢
  refine (plain_ok _ C2 O2 _ (m2.ext hE6) hk2 ok2).mono ?_
  rintro e w4 ⟨v'', rfl, hm2, he4⟩
  generalize hC1 : (pl C2 O2 C2.length).1 = C3 at hm2 ⊢
  generalize hC2 : (pl C2 O2 C2.length).2 = O3 at hm2 ⊢
  have HB := hid (And.intro hC1 hC2)
  clear hC1 hC2
  obtain ⟨a7, k7, a8, k8, rfl, hM2⟩ := hm2.unpack
  have hb8 := heap_alloc_new w4 (.cells #[.slice a7 C3.length k7, .slice a8 O3.length k8] 28)
  have hE8 : Ext w3 (w4.alloc (.cells #[.slice a7 C3.length k7, .slice a8 O3.length k8] 28)) := by (repeat (first | (with_reducible assumption) | (with_reducible exact Ext.refl _) | (with_reducible refine Ext.drew ?_) | (with_reducible refine Ext.drewN ?_ _) | (with_reducible refine Ext.alloc ?_ _) | (with_reducible refine Ext.trans ?_ (by with_reducible assumption))))
  have m8 := hM2.ext ((Ext.refl w4).alloc (.cells #[.slice a7 C3.length k7, .slice a8 O3.length k8] 28))
  have y6 := hE8.heap hb6
  have m6' := m6.ext hE8
  have x6 := blk2 y6
  have x8 := blk2 hb8
  have hEE := (hE.trans hE6).trans hE8
  obtain ⟨_, _, hq, n1, n2⟩ := m6'
  injection hq with hq; injection hq with hq; injection hq with hq hq'; subst hq; injection hq' with hq' _; subst hq'
  obtain ⟨_, _, hq, n3, n4⟩ := m8
  injection hq with hq; injection hq with hq; injection hq with hq hq'; subst hq; injection hq' with hq' _; subst hq'
  have EQ := hid (show sameB C' C3 O' O3 = (decide (C' = C3) && decide (O' = O3)) from rfl)
  go_wp2_with fail
  clear x6 x8
  generalize (w4.alloc (.cells #[.slice a7 C3.length k7, .slice a8 O3.length k8] 28)) = w5 at hb8 hE8 y6 hEE n1 n2 n3 n4 ⊢
  refine (equal_Str _ _ C' C3 _ n1 n3).mono ?_
  rintro e w6 ⟨rfl, d, rfl⟩
  have x6 := blk2 y6
  have x8 := blk2 hb8
  by_cases g : C' = C3
  · have q : decide (C' = C3) = true := by simp [g]
    have E1 := hid (show sameB C' C3 O' O3 = decide (O' = O3) by simp [sameB, g])
    clear g
    go_wp2_with fail
    refine (equal_Int _ _ O' O3 _ (n2.ext ((Ext.refl w5).drewN d)) (n4.ext ((Ext.refl w5).drewN d))).mono ?_
    rintro e w7 ⟨rfl, d', rfl⟩
    go_wp2
    go_ret2
    exact ⟨rT2 (vB (by rw [HA.out.1, HA.out.2, HB.out.1, HB.out.2]; exact E1.out.symm)) rfl, by (repeat (first | (with_reducible assumption) | (with_reducible exact Ext.refl _) | (with_reducible refine Ext.drew ?_) | (with_reducible refine Ext.drewN ?_ _) | (with_reducible refine Ext.alloc ?_ _) | (with_reducible refine Ext.trans ?_ (by with_reducible assumption))))⟩
  · have q : decide (C' = C3) = false := by simp [g]
    have E1 := hid (show sameB C' C3 O' O3 = false by simp [sameB, g])
    clear g
    go_wp2
    go_ret2
    exact ⟨rT2 (vB (by rw [HA.out.1, HA.out.2, HB.out.1, HB.out.2]; exact E1.out.symm)) rfl, by (repeat (first | (with_reducible assumption) | (with_reducible exact Ext.refl _) | (with_reducible refine Ext.drew ?_) | (with_reducible refine Ext.drewN ?_ _) | (with_reducible refine Ext.alloc ?_ _) | (with_reducible refine Ext.trans ?_ (by with_reducible assumption))))⟩
end Go.Proofs.YtghemmmkbpfdhaaDoor

/- Contracts and lemmas for the proofs of this seat; each theorem states its own conditions. -/
namespace Go.Proofs.YtghemmmkbpfdhaaDoor
open Go.Shelf
def lays2n22_ren : Go.Shelf.Ren := ⟨fun | 22 => 66 | 29 => 100 | 30 => 101 | 36 => 125 | 17 => 152 | n => n, fun | 24 => 26 | 9 => 9 | 3 => 3 | 4 => 4 | 0 => 0 | n => n, fun | n => n⟩
theorem lays2n22 : Go.Proofs.Lays2.n22 Tryd.prog lays2n22_ren := {
  mixed := by kernel_rfl
  f17 := Tryd.func152.trans (congrArg some (by kernel_rfl))
  f22 := Tryd.func66.trans (congrArg some (by kernel_rfl))
  f29 := Tryd.func100.trans (congrArg some (by kernel_rfl))
  f30 := Tryd.func101.trans (congrArg some (by kernel_rfl))
  f36 := Tryd.func125.trans (congrArg some (by kernel_rfl))
  t0 := Tryd.underlying0
  a0 := Tryd.isAgg0
  z0 := Tryd.sizeOf0
  v0 := Tryd.zeroValue0
  t3 := Tryd.underlying3
  a3 := Tryd.isAgg3
  z3 := Tryd.sizeOf3
  v3 := Tryd.zeroValue3
  t4 := Tryd.underlying4
  a4 := Tryd.isAgg4
  z4 := Tryd.sizeOf4
  v4 := Tryd.zeroValue4
  t9 := Tryd.underlying9
  a9 := Tryd.isAgg9
  z9 := Tryd.sizeOf9
  v9 := Tryd.zeroValue9
  t24 := Tryd.underlying26
  a24 := Tryd.isAgg26
  z24 := Tryd.sizeOf26
  v24 := Tryd.zeroValue26
  i9 := by kernel_rfl }
def lays2n21_ren : Go.Shelf.Ren := ⟨fun | 21 => 67 | 27 => 102 | 28 => 103 | 35 => 126 | 39 => 153 | n => n, fun | 22 => 22 | 3 => 3 | 4 => 4 | 0 => 0 | n => n, fun | n => n⟩
theorem lays2n21 : Go.Proofs.Lays2.n21 Tryd.prog lays2n21_ren := {
  mixed := by kernel_rfl
  f21 := Tryd.func67.trans (congrArg some (by kernel_rfl))
  f27 := Tryd.func102.trans (congrArg some (by kernel_rfl))
  f28 := Tryd.func103.trans (congrArg some (by kernel_rfl))
  f35 := Tryd.func126.trans (congrArg some (by kernel_rfl))
  f39 := Tryd.func153.trans (congrArg some (by kernel_rfl))
  t0 := Tryd.underlying0
  a0 := Tryd.isAgg0
  z0 := Tryd.sizeOf0
  v0 := Tryd.zeroValue0
  t3 := Tryd.underlying3
  a3 := Tryd.isAgg3
  z3 := Tryd.sizeOf3
  v3 := Tryd.zeroValue3
  t4 := Tryd.underlying4
  a4 := Tryd.isAgg4
  z4 := Tryd.sizeOf4
  v4 := Tryd.zeroValue4
  t22 := Tryd.underlying22
  a22 := Tryd.isAgg22
  z22 := Tryd.sizeOf22
  v22 := Tryd.zeroValue22
  i3 := by kernel_rfl }
def lays109_ren : Go.Shelf.Ren := ⟨fun | 109 => 74 | n => n, fun | 31 => 26 | 9 => 9 | 3 => 3 | 0 => 0 | 4 => 4 | n => n, fun | n => n⟩
theorem lays109 : Go.Proofs.Lays.n109 Tryd.prog lays109_ren := {
  mixed := by kernel_rfl
  f109 := Tryd.func74.trans (congrArg some (by kernel_rfl))
  t0 := Tryd.underlying0
  a0 := Tryd.isAgg0
  z0 := Tryd.sizeOf0
  v0 := Tryd.zeroValue0
  t3 := Tryd.underlying3
  a3 := Tryd.isAgg3
  z3 := Tryd.sizeOf3
  v3 := Tryd.zeroValue3
  t4 := Tryd.underlying4
  a4 := Tryd.isAgg4
  z4 := Tryd.sizeOf4
  v4 := Tryd.zeroValue4
  t9 := Tryd.underlying9
  a9 := Tryd.isAgg9
  z9 := Tryd.sizeOf9
  v9 := Tryd.zeroValue9
  t31 := Tryd.underlying26
  a31 := Tryd.isAgg26
  z31 := Tryd.sizeOf26
  v31 := Tryd.zeroValue26 }
def lays110_ren : Go.Shelf.Ren := ⟨fun | 110 => 37 | 109 => 74 | n => n, fun | 31 => 26 | 9 => 9 | 4 => 4 | 3 => 3 | 0 => 0 | n => n, fun | n => n⟩
theorem lays110 : Go.Proofs.Lays.n110 Tryd.prog lays110_ren := {
  mixed := by kernel_rfl
  f109 := Tryd.func74.trans (congrArg some (by kernel_rfl))
  f110 := Tryd.func37.trans (congrArg some (by kernel_rfl))
  t0 := Tryd.underlying0
  a0 := Tryd.isAgg0
  z0 := Tryd.sizeOf0
  v0 := Tryd.zeroValue0
  t3 := Tryd.underlying3
  a3 := Tryd.isAgg3
  z3 := Tryd.sizeOf3
  v3 := Tryd.zeroValue3
  t4 := Tryd.underlying4
  a4 := Tryd.isAgg4
  z4 := Tryd.sizeOf4
  v4 := Tryd.zeroValue4
  t9 := Tryd.underlying9
  a9 := Tryd.isAgg9
  z9 := Tryd.sizeOf9
  v9 := Tryd.zeroValue9
  t31 := Tryd.underlying26
  a31 := Tryd.isAgg26
  z31 := Tryd.sizeOf26
  v31 := Tryd.zeroValue26 }
end Go.Proofs.YtghemmmkbpfdhaaDoor

/- Contracts and lemmas for the proofs of this seat; each theorem states its own conditions. -/
namespace Go.Proofs.YtghemmmkbpfdhaaDoor
open Go.RowKit
/-! Many cells written in one block -/
def putL (cur : Array Value) (o : Nat) : List Value → Array Value
  | [] => cur
  | v :: r => putL (cur.setIfInBounds o v) (o + 1) r
theorem putL_size : ∀ (vs : List Value) (cur : Array Value) (o : Nat), (putL cur o vs).size = cur.size
  | [], _, _ => rfl
  | _ :: r, cur, o => by rw [putL, putL_size r]; simp
theorem putL_eq : ∀ (vs : List Value) (cur : Array Value) (o : Nat), o + vs.length ≤ cur.size → (putL cur o vs).toList = cur.toList.take o ++ vs ++ cur.toList.drop (o + vs.length)
  | [], cur, o, _ => by simp [putL]
  | v :: r, cur, o, h => by
    simp only [List.length_cons] at h
    rw [putL, putL_eq r _ _ (by simp; omega), Array.toList_setIfInBounds, List.set_eq_take_append_cons_drop, if_pos (by simp; omega)]
    have e1 : (cur.toList.take o).length = o := by simp; omega
    have e2 : o + 1 - o = 1 := by omega
    have e3 : o + 1 + r.length - o = r.length + 1 := by omega
    rw [List.take_append, List.drop_append, e1, e2, e3, List.take_of_length_le (by omega), @List.drop_eq_nil_of_le _ (cur.toList.take o) _ (by omega)]
    simp [Nat.add_assoc, Nat.add_comm 1]
theorem setCells_heap (b : Nat) (t : TypeId) (fr : Nat × Nat) : ∀ (vs : List Value) (o : Nat) (w : World) (cur : Array Value), w.heap[b]? = some (.cells cur t fr) → (w.setCells b o vs).heap[b]? = some (.cells (putL cur o vs) t fr)
  | [], _, _, _, h => h
  | v :: r, o, w, cur, h => setCells_heap b t fr r (o + 1) _ _ (by simp [World.setCell, Array.getElem?_modify, h])
theorem ext_setCells {B b : Nat} {a : World} (hb : B ≤ b) : ∀ (vs : List Value) (o : Nat) (w : World), Below B a w → Below B a (w.setCells b o vs)
  | [], _, _, h => h
  | v :: r, o, w, h => ext_setCells hb r (o + 1) _ (Below.setCell h hb v)
theorem setCells_other {b k : Nat} (hk : k ≠ b) : ∀ (vs : List Value) (o : Nat) (w : World), (w.setCells b o vs).heap[k]? = w.heap[k]?
  | [], _, _ => rfl
  | v :: r, o, w => (setCells_other hk r (o + 1) _).trans (Below.heap_setCell _ _ _ _ (fun e => hk e))
end Go.Proofs.YtghemmmkbpfdhaaDoor
