/- Contracts and lemmas for the proof of DeedRuns; each theorem states its own conditions. -/
import Derived.Test.YtomgeolmfpijoaaDoorQDeedRunsac
import Derived.OpenShut
import Derived.Test.YtomgeolmfpijoaaDoorQDeedRunsah
set_option linter.unusedVariables false
set_option linter.unusedSimpArgs false
/- Contracts and lemmas for the proofs of this seat; each theorem states its own conditions. -/
namespace Go.Proofs.YtomgeolmfpijoaaDoor
open Go.RowKit
theorem cell_spot {w : World} {x : Addr} {v : Value} (h : w.cell? x = some v) : x.spot = none := by
  unfold World.cell? at h
  split at h
  · rename_i hx
    cases hs : x.spot with
    | none => rfl
    | some s => simp [hs] at h
  · cases h
/-- what the shell tells of a slice of numbers, as a slice of mine -/
theorem seg_of_row {w : World} {a : Option Addr} {len cap : Nat} {zs : List Int} (h : (a = none ∧ len = 0 ∧ cap = 0 ∧ zs = []) ∨
    ∃ x, a = some x ∧ len ≤ cap ∧ cap ≤ maxLen ∧ zs.length = cap ∧ (∀ i, i < zs.length → w.cell? (x.add i) = some (.int .i64 (zs.getD i 0))) ∧ ∀ n ∈ zs, (Lit.int .i64 n).wf = true) :
    Seg w (.slice a len cap) 1 (zs.take len).length (cI (zs.take len)) ∧ (∀ z ∈ zs.take len, -9223372036854775808 ≤ z ∧ z ≤ 9223372036854775807) ∧ (zs.take len).length = len := by
  rcases h with ⟨rfl, rfl, rfl, rfl⟩ | ⟨x, rfl, h1, h2, h3, h4, h5⟩
  · exact ⟨Seg.nil _ _, by simp, rfl⟩
  · have hl : (zs.take len).length = len := by rw [List.length_take]; omega
    refine ⟨⟨by rw [cI_len]; omega, some x, cap, by rw [hl], by omega, h2, fun hn => ?_⟩, fun z hz => ?_, hl⟩
    · have hs := cell_spot (h4 0 (by omega))
      obtain ⟨b, off, sp⟩ := x
      have : sp = none := by simpa [Addr.add] using hs
      subst this
      refine ⟨b, off, rfl, fun j u hu => ?_⟩
      rw [← addr_add]
      have hj : j < (zs.take len).length := by have := (List.getElem?_eq_some_iff.1 hu).1; rw [cI_len] at this; exact this
      rw [cI_at0 _ _ hj] at hu
      injection hu with hu; subst hu
      have hj' : j < zs.length := by omega
      rw [h4 j hj']
      simp [hj']
    · have := bounds_i64 (h5 z (List.mem_of_mem_take hz))
      exact this
end Go.Proofs.YtomgeolmfpijoaaDoor

/- Contracts and lemmas for the proofs of this seat; each theorem states its own conditions. -/
namespace Go.Proofs.YtomgeolmfpijoaaDoor
open Go.RowKit
def findV (cuts : List ByteArray) (owners : List Int) (key : ByteArray) : Int := if mapErr cuts owners = 0 ∧ keyB key = true then whose cuts owners key else 0
def findE (cuts : List ByteArray) (owners : List Int) (key : ByteArray) : Int := if mapErr cuts owners ≠ 0 then mapErr cuts owners else if keyB key then 0 else 3
set_option maxRecDepth 10000 in
theorem find_any (v : Value) (cuts : List ByteArray) (owners : List Int) (key : ByteArray) (w : World) (hv : IsMap w v cuts owners) (hk : ∀ k ∈ cuts, k.size ≤ 9223372036854775807) (hks : key.size ≤ 9223372036854775807) :
    Calls Tryd.prog 10 #[v, .string key] w fun e w' => e = .returned (.tuple #[.int .i64 (findV cuts owners key), .int .i64 (findE cuts owners key)]) ∧ Ext w w' := by
  have hv0 := hv
  obtain ⟨c, o, rfl, h1, h2⟩ := hv
  have hb0 : (w.alloc (.cells #[c, o] 28)).heap[w.heap.size]? = some (.cells #[c, o] 28 (0, 0)) := heap_alloc_new w _
  by_cases g1 : mapErr cuts owners = 0
  · have q : (mapErr cuts owners != 0) = false := by simp [g1]
    have ok := ok_of_mapErr g1
    have hf := ok.few
    cases g2 : keyB key with
    | false =>
      have e1 : findV cuts owners key = 0 := by simp [findV, g2]
      have e2 : findE cuts owners key = 3 := by simp [findE, g1, g2]
      have G1 := (show Hid (mapErr cuts owners = 0) from g1)
      clear g1
      have E1 := (show Hid (findV cuts owners key = 0 ∧ findE cuts owners key = 3) from ⟨e1, e2⟩)
      clear e1 e2
      go_enter Tryd.func10, Tryd.ntmps10
      go_wp2_with fail
      refine (mcheck_any _ cuts owners _ (hv0.ext (by (repeat (first | (with_reducible assumption) | (with_reducible exact Ext.refl _) | (with_reducible refine Ext.drew ?_) | (with_reducible refine Ext.drewN ?_ _) | (with_reducible refine Ext.alloc ?_ _) | (with_reducible refine Ext.trans ?_ (by with_reducible assumption)))))) hk).mono ?_
      rintro e w1 ⟨rfl, he1⟩
      have hb := blk2 (he1.heap hb0)
      go_wp2_with fail
      refine (key_any _ _ hks).mono ?_
      rintro e w' ⟨rfl, rfl⟩
      go_wp2
      go_ret2
      exact ⟨rT2 (vI E1.out.1.symm) (vI E1.out.2.symm), by (repeat (first | (with_reducible assumption) | (with_reducible exact Ext.refl _) | (with_reducible refine Ext.drew ?_) | (with_reducible refine Ext.drewN ?_ _) | (with_reducible refine Ext.alloc ?_ _) | (with_reducible refine Ext.trans ?_ (by with_reducible assumption))))⟩
    | true =>
      have e1 : findV cuts owners key = whose cuts owners key := by simp [findV, g2, g1]
      have e2 : findE cuts owners key = 0 := by simp [findE, g1, g2]
      have G1 := (show Hid (mapErr cuts owners = 0) from g1)
      clear g1
      have E1 := (show Hid (findV cuts owners key = whose cuts owners key ∧ findE cuts owners key = 0) from ⟨e1, e2⟩)
      clear e1 e2
      go_enter Tryd.func10, Tryd.ntmps10
      go_wp2_with fail
      refine (mcheck_any _ cuts owners _ (hv0.ext (by (repeat (first | (with_reducible assumption) | (with_reducible exact Ext.refl _) | (with_reducible refine Ext.drew ?_) | (with_reducible refine Ext.drewN ?_ _) | (with_reducible refine Ext.alloc ?_ _) | (with_reducible refine Ext.trans ?_ (by with_reducible assumption)))))) hk).mono ?_
      rintro e w1 ⟨rfl, he1⟩
      have hb := blk2 (he1.heap hb0)
      go_wp2_with fail
      refine (key_any _ _ hks).mono ?_
      rintro e w' ⟨rfl, rfl⟩
      go_wp2_with fail
      refine (of_any _ cuts owners key _ (hv0.ext (by (repeat (first | (with_reducible assumption) | (with_reducible exact Ext.refl _) | (with_reducible refine Ext.drew ?_) | (with_reducible refine Ext.drewN ?_ _) | (with_reducible refine Ext.alloc ?_ _) | (with_reducible refine Ext.trans ?_ (by with_reducible assumption)))))) ok.srt ok.len (by omega)).mono ?_
      rintro e w2 ⟨rfl, he2⟩
      go_wp2
      go_ret2
      exact ⟨rT2 (vI E1.out.1.symm) (vI E1.out.2.symm), by (repeat (first | (with_reducible assumption) | (with_reducible exact Ext.refl _) | (with_reducible refine Ext.drew ?_) | (with_reducible refine Ext.drewN ?_ _) | (with_reducible refine Ext.alloc ?_ _) | (with_reducible refine Ext.trans ?_ (by with_reducible assumption))))⟩
  · have q : (mapErr cuts owners != 0) = true := by simp [g1]
    have e1 : findV cuts owners key = 0 := by simp [findV, g1]
    have e2 : findE cuts owners key = mapErr cuts owners := by simp [findE, g1]
    have E1 := (show Hid (findV cuts owners key = 0 ∧ findE cuts owners key = mapErr cuts owners) from ⟨e1, e2⟩)
    clear e1 e2 g1
    go_enter Tryd.func10, Tryd.ntmps10
    go_wp2_with fail
    refine (mcheck_any _ cuts owners _ (hv0.ext (by (repeat (first | (with_reducible assumption) | (with_reducible exact Ext.refl _) | (with_reducible refine Ext.drew ?_) | (with_reducible refine Ext.drewN ?_ _) | (with_reducible refine Ext.alloc ?_ _) | (with_reducible refine Ext.trans ?_ (by with_reducible assumption)))))) hk).mono ?_
    rintro e w1 ⟨rfl, he1⟩
    have hb := blk2 (he1.heap hb0)
    go_wp2
    go_ret2
    exact ⟨rT2 (vI E1.out.1.symm) (vI E1.out.2.symm), by (repeat (first | (with_reducible assumption) | (with_reducible exact Ext.refl _) | (with_reducible refine Ext.drew ?_) | (with_reducible refine Ext.drewN ?_ _) | (with_reducible refine Ext.alloc ?_ _) | (with_reducible refine Ext.trans ?_ (by with_reducible assumption))))⟩
/-- the number that Within makes -/
def wi (k n : Int) : Int := (k % 18446744073709551616) % n
theorem wi_lo {k n : Int} (hn : 0 < n) : 0 ≤ wi k n := Int.emod_nonneg _ (by omega)
theorem wi_hi {k n : Int} (hn : 0 < n) : wi k n < n := Int.emod_lt_of_pos _ hn
theorem within_any (k n : Int) (w : World) (hn : 0 < n) (hn' : n ≤ 1000000000) : Calls Tryd.prog 75 #[.int .i64 k, .int .i64 n] w fun e w' => e = .returned (.int .i64 (wi k n)) ∧ w = w' := by
  have hu : IntKind.u64.wrap n = n := by rw [IntKind.wrap_u64]; omega
  have hnz : ¬ n = 0 := by omega
  have hl := wi_lo (k := k) hn
  have hh := wi_hi (k := k) hn
  go_enter Tryd.func75, Tryd.ntmps75
  go_wp2
  go_ret
  refine ⟨rI ?_, rfl⟩
  have e : (IntKind.u64.wrap k).tmod n = wi k n := by
    rw [IntKind.wrap_u64, Int.tmod_eq_emod_of_nonneg (by omega)]; rfl
  show wrap64 ((IntKind.u64.wrap k).tmod n) = wi k n
  rw [e]; unfold wrap64; omega
/-- the keys that the statements use -/
def keysL : List ByteArray := [⟨#[97]⟩, ⟨#[98]⟩, ⟨#[99]⟩, ⟨#[100]⟩, ⟨#[109]⟩, ⟨#[110]⟩, ⟨#[122]⟩, ⟨#[97, 98]⟩]
/-- Key -/
def keyOf (k : Int) : ByteArray := kAt keysL (wi k 8).toNat
end Go.Proofs.YtomgeolmfpijoaaDoor

/- Contracts and lemmas for the proofs of this seat; each theorem states its own conditions. -/
namespace Go.Proofs.YtomgeolmfpijoaaDoor
open Go.RowKit
theorem keyOf_is (k : Int) : keyB (keyOf k) = true ∧ (keyOf k).size ≤ 9223372036854775807 := by
  have h0 := wi_lo (k := k) (n := 8) (by omega)
  have h1 := wi_hi (k := k) (n := 8) (by omega)
  have h2 : (wi k 8).toNat < keysL.length := by simp [keysL]; omega
  have h3 : ∀ k, (h : k < keysL.length) → keyB keysL[k] = true ∧ keysL[k].size ≤ 2 := by decide +kernel
  have := h3 _ h2
  unfold keyOf
  rw [kAt_eq h2]; exact ⟨this.1, by omega⟩
end Go.Proofs.YtomgeolmfpijoaaDoor
