/- Contracts and lemmas for the proof of ShardFind; each theorem states its own conditions. -/
import Derived.Test.YtnepdfpooobmcaaDoorQShardFindaj
set_option linter.unusedVariables false
set_option linter.unusedSimpArgs false
/- Contracts and lemmas for the proofs of this seat; each theorem states its own conditions. -/
namespace Go.Proofs.YtnepdfpooobmcaaDoor
open Go.RowKit
def findV (cuts : List ByteArray) (owners : List Int) (key : ByteArray) : Int := if mapErr cuts owners = 0 ∧ keyB key = true then whose cuts owners key else 0
def findE (cuts : List ByteArray) (owners : List Int) (key : ByteArray) : Int := if mapErr cuts owners ≠ 0 then mapErr cuts owners else if keyB key then 0 else 3
set_option maxRecDepth 10000 in
theorem find_any (v : Value) (cuts : List ByteArray) (owners : List Int) (key : ByteArray) (w : World) (hv : IsMap w v cuts owners) (hk : ∀ k ∈ cuts, k.size ≤ 9223372036854775807) (hks : key.size ≤ 9223372036854775807) :
    Calls Tryd.prog 28 #[v, .string key] w fun e w' => e = .returned (.tuple #[.int .i64 (findV cuts owners key), .int .i64 (findE cuts owners key)]) ∧ Ext w w' := by
  have hv0 := hv
  obtain ⟨c, o, rfl, h1, h2⟩ := hv
  have hb0 : (w.alloc (.cells #[c, o] 25)).heap[w.heap.size]? = some (.cells #[c, o] 25 (0, 0)) := heap_alloc_new w _
  by_cases g1 : mapErr cuts owners = 0
  · have q : (mapErr cuts owners != 0) = false := by simp [g1]
    have ok := ok_of_mapErr g1
    have hf := ok.few
    cases g2 : keyB key with
    | false =>
      have e1 : findV cuts owners key = 0 := by simp [findV, g2]
      have e2 : findE cuts owners key = 3 := by simp [findE, g1, g2]
      have G1 := (show Hid (mapErr cuts owners = 0) from g1)
      clear g1
      have E1 := (show Hid (findV cuts owners key = 0 ∧ findE cuts owners key = 3) from ⟨e1, e2⟩)
      clear e1 e2
      go_enter Tryd.func28, Tryd.ntmps28
      go_wp2_with fail
      refine (mcheck_any _ cuts owners _ (hv0.ext (by (repeat (first | (with_reducible assumption) | (with_reducible exact Ext.refl _) | (with_reducible refine Ext.drew ?_) | (with_reducible refine Ext.drewN ?_ _) | (with_reducible refine Ext.alloc ?_ _) | (with_reducible refine Ext.trans ?_ (by with_reducible assumption)))))) hk).mono ?_
      rintro e w1 ⟨rfl, he1⟩
      have hb := blk2 (he1.heap hb0)
      go_wp2_with fail
      refine (key_any _ _ hks).mono ?_
      rintro e w' ⟨rfl, rfl⟩
      go_wp2
      go_ret2
      exact ⟨rT2 (vI E1.out.1.symm) (vI E1.out.2.symm), by (repeat (first | (with_reducible assumption) | (with_reducible exact Ext.refl _) | (with_reducible refine Ext.drew ?_) | (with_reducible refine Ext.drewN ?_ _) | (with_reducible refine Ext.alloc ?_ _) | (with_reducible refine Ext.trans ?_ (by with_reducible assumption))))⟩
    | true =>
      have e1 : findV cuts owners key = whose cuts owners key := by simp [findV, g2, g1]
      have e2 : findE cuts owners key = 0 := by simp [findE, g1, g2]
      have G1 := (show Hid (mapErr cuts owners = 0) from g1)
      clear g1
      have E1 := (show Hid (findV cuts owners key = whose cuts owners key ∧ findE cuts owners key = 0) from ⟨e1, e2⟩)
      clear e1 e2
      go_enter Tryd.func28, Tryd.ntmps28
      go_wp2_with fail
      refine (mcheck_any _ cuts owners _ (hv0.ext (by (repeat (first | (with_reducible assumption) | (with_reducible exact Ext.refl _) | (with_reducible refine Ext.drew ?_) | (with_reducible refine Ext.drewN ?_ _) | (with_reducible refine Ext.alloc ?_ _) | (with_reducible refine Ext.trans ?_ (by with_reducible assumption)))))) hk).mono ?_
      rintro e w1 ⟨rfl, he1⟩
      have hb := blk2 (he1.heap hb0)
      go_wp2_with fail
      refine (key_any _ _ hks).mono ?_
      rintro e w' ⟨rfl, rfl⟩
      go_wp2_with fail
      refine (of_any _ cuts owners key _ (hv0.ext (by (repeat (first | (with_reducible assumption) | (with_reducible exact Ext.refl _) | (with_reducible refine Ext.drew ?_) | (with_reducible refine Ext.drewN ?_ _) | (with_reducible refine Ext.alloc ?_ _) | (with_reducible refine Ext.trans ?_ (by with_reducible assumption)))))) ok.srt ok.len (by omega)).mono ?_
      rintro e w2 ⟨rfl, he2⟩
      go_wp2
      go_ret2
      exact ⟨rT2 (vI E1.out.1.symm) (vI E1.out.2.symm), by (repeat (first | (with_reducible assumption) | (with_reducible exact Ext.refl _) | (with_reducible refine Ext.drew ?_) | (with_reducible refine Ext.drewN ?_ _) | (with_reducible refine Ext.alloc ?_ _) | (with_reducible refine Ext.trans ?_ (by with_reducible assumption))))⟩
  · have q : (mapErr cuts owners != 0) = true := by simp [g1]
    have e1 : findV cuts owners key = 0 := by simp [findV, g1]
    have e2 : findE cuts owners key = mapErr cuts owners := by simp [findE, g1]
    have E1 := (show Hid (findV cuts owners key = 0 ∧ findE cuts owners key = mapErr cuts owners) from ⟨e1, e2⟩)
    clear e1 e2 g1
    go_enter Tryd.func28, Tryd.ntmps28
    go_wp2_with fail
    refine (mcheck_any _ cuts owners _ (hv0.ext (by (repeat (first | (with_reducible assumption) | (with_reducible exact Ext.refl _) | (with_reducible refine Ext.drew ?_) | (with_reducible refine Ext.drewN ?_ _) | (with_reducible refine Ext.alloc ?_ _) | (with_reducible refine Ext.trans ?_ (by with_reducible assumption)))))) hk).mono ?_
    rintro e w1 ⟨rfl, he1⟩
    have hb := blk2 (he1.heap hb0)
    go_wp2
    go_ret2
    exact ⟨rT2 (vI E1.out.1.symm) (vI E1.out.2.symm), by (repeat (first | (with_reducible assumption) | (with_reducible exact Ext.refl _) | (with_reducible refine Ext.drew ?_) | (with_reducible refine Ext.drewN ?_ _) | (with_reducible refine Ext.alloc ?_ _) | (with_reducible refine Ext.trans ?_ (by with_reducible assumption))))⟩
/-- the number that Within makes -/
def wi (k n : Int) : Int := (k % 18446744073709551616) % n
theorem wi_lo {k n : Int} (hn : 0 < n) : 0 ≤ wi k n := Int.emod_nonneg _ (by omega)
theorem wi_hi {k n : Int} (hn : 0 < n) : wi k n < n := Int.emod_lt_of_pos _ hn
theorem within_any (k n : Int) (w : World) (hn : 0 < n) (hn' : n ≤ 1000000000) : Calls Tryd.prog 21 #[.int .i64 k, .int .i64 n] w fun e w' => e = .returned (.int .i64 (wi k n)) ∧ w = w' := by
  have hu : IntKind.u64.wrap n = n := by rw [IntKind.wrap_u64]; omega
  have hnz : ¬ n = 0 := by omega
  have hl := wi_lo (k := k) hn
  have hh := wi_hi (k := k) hn
  go_enter Tryd.func21, Tryd.ntmps21
  go_wp2
  go_ret
  refine ⟨rI ?_, rfl⟩
  have e : (IntKind.u64.wrap k).tmod n = wi k n := by
    rw [IntKind.wrap_u64, Int.tmod_eq_emod_of_nonneg (by omega)]; rfl
  show wrap64 ((IntKind.u64.wrap k).tmod n) = wi k n
  rw [e]; unfold wrap64; omega
/-- the keys that the statements use -/
def keysL : List ByteArray := [⟨#[97]⟩, ⟨#[98]⟩, ⟨#[99]⟩, ⟨#[100]⟩, ⟨#[109]⟩, ⟨#[110]⟩, ⟨#[122]⟩, ⟨#[97, 98]⟩]
end Go.Proofs.YtnepdfpooobmcaaDoor
