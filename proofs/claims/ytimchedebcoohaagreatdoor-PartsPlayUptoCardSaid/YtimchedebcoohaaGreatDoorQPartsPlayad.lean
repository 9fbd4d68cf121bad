/- Contracts and lemmas for the proof of PartsPlay; each theorem states its own conditions. -/
import Derived.Test.YtimchedebcoohaaGreatDoorQPartsPlayac
import Derived.Deep.RegionHeld3
set_option linter.unusedVariables false
set_option linter.unusedSimpArgs false
/- Contracts and lemmas for the proofs of this seat; each theorem states its own conditions. -/
namespace Go.Proofs.YtimchedebcoohaaGreatDoor
open Go.RowKit
/-- v is a map with these cuts and owners -/
def IsMap (w : World) (v : Value) (cuts : List ByteArray) (owners : List Int) : Prop :=
  ∃ c o, v = .agg #[c, o] ∧ Seg w c 1 cuts.length (cS cuts) ∧ Seg w o 1 owners.length (cI owners)
theorem IsMap.ext {w w' : World} {v : Value} {cuts : List ByteArray} {owners : List Int} (h : IsMap w v cuts owners) (k : Ext w w') : IsMap w' v cuts owners := by
  obtain ⟨c, o, h1, h2, h3⟩ := h
  exact ⟨c, o, h1, h2.ext k, h3.ext k⟩
theorem IsMap.unpack {w : World} {v : Value} {cuts : List ByteArray} {owners : List Int} (h : IsMap w v cuts owners) :
    ∃ a k a' k', v = .agg #[.slice a cuts.length k, .slice a' owners.length k'] ∧ Seg w (.slice a cuts.length k) 1 cuts.length (cS cuts) ∧ Seg w (.slice a' owners.length k') 1 owners.length (cI owners) := by
  obtain ⟨c, o, rfl, h1, h2⟩ := h
  obtain ⟨a, k, rfl⟩ := seg_form h1
  obtain ⟨a', k', rfl⟩ := seg_form h2
  exact ⟨a, k, a', k', rfl, h1, h2⟩
/-- a map of the call's own -/
def OwnMap (w : World) (B : Nat) (v : Value) (cuts : List ByteArray) (owners : List Int) : Prop :=
  ∃ c o, v = .agg #[c, o] ∧ w.ownsRow B 9 1 c cuts.length (cS cuts) ∧ w.ownsRow B 3 1 o owners.length (cI owners)
theorem OwnMap.is {w : World} {B : Nat} {v : Value} {cuts : List ByteArray} {owners : List Int} (h : OwnMap w B v cuts owners) : IsMap w v cuts owners := by
  obtain ⟨c, o, h1, h2, h3⟩ := h
  exact ⟨c, o, h1, own_seg h2, own_seg h3⟩
set_option maxRecDepth 10000 in
theorem copied_any (v : Value) (cuts : List ByteArray) (owners : List Int) (w : World) (hv : IsMap w v cuts owners) (hc : cuts.length < 1000000000) (ho : owners.length < 1000000000) :
    Calls Tryz.prog 31 #[v] w fun e w' => ∃ v', e = .returned v' ∧ OwnMap w' w.heap.size v' cuts owners ∧ Ext w w' := by
  obtain ⟨c, o, rfl, h1, h2⟩ := hv
  go_enter Tryz.func31, Tryz.ntmps31
  go_wp2_with fail
  have rb0 : ((w.alloc (.cells #[c, o] 25)).alloc (.cells #[.slice none 0 0, .slice none 0 0] 25)).drew.heap[w.heap.size + 1]? = some (.cells #[.slice none 0 0, .slice none 0 0] 25 (0, 0)) := heap_2 _ _ _
  go_region_held3 (fun w' => w'.cell? ⟨w.heap.size, 0, none⟩ = some c ∧ w'.cell? ⟨w.heap.size, 1, none⟩ = some o ∧ Ext w w')
    (first
      | (refine ⟨by simp [go_sem], by simp [go_sem], ?_⟩; (repeat (first | (with_reducible assumption) | (with_reducible exact Ext.refl _) | (with_reducible refine Ext.drew ?_) | (with_reducible refine Ext.drewN ?_ _) | (with_reducible refine Ext.alloc ?_ _) | (with_reducible refine Ext.trans ?_ (by with_reducible assumption)))); done)
      | (exact keep2 (by assumption) he1)
      | (exact keep2s (keep2s (by assumption) (by simp) (by simp) (by simp)) (by simp) (by simp) (by simp)))
    (first
      | (go_at_call 55; refine (clone_Str c cuts.length (cS cuts) _ (h1.ext ?_) (cS_one _) (by omega)).mono ?_
         (apply And.right; apply And.right; assumption)
         rintro e w1 ⟨a1, k1, rfl, hc1, he1⟩
         have hE : Ext w w1 := Ext.trans (by apply And.right; apply And.right; assumption) he1
         have hz : w.heap.size + 2 ≤ w1.heap.size := by
           have := he1.size'
           first | (simp at this; omega) | omega
         have hc1 := own_base (B' := w.heap.size + 2) hc1 (by first | (simp; done) | (simp; omega) | omega)
         try (have hc2 := own_ext hc2 he1)
         have rb := he1.heap (by assumption : _ = some (.cells #[.slice none 0 0, .slice none 0 0] 25 (0, 0)))
         obtain ⟨r1, r2, r3, r4⟩ := blk2 rb)
      | (go_at_call 46; refine (clone_Int o owners.length (cI owners) _ (h2.ext ?_) (cI_one _) (by omega)).mono ?_
         (apply And.right; apply And.right; assumption)
         rintro e w1 ⟨a2, k2, rfl, hc2, he1⟩
         have hE : Ext w w1 := Ext.trans (by apply And.right; apply And.right; assumption) he1
         have hz : w.heap.size + 2 ≤ w1.heap.size := by
           have := he1.size'
           first | (simp at this; omega) | omega
         have hc2 := own_base (B' := w.heap.size + 2) hc2 (by first | (simp; done) | (simp; omega) | omega)
         try (have hc1 := own_ext hc1 he1)
         have rb := he1.heap (by assumption : _ = some (.cells #[.slice none 0 0, .slice none 0 0] 25 (0, 0)))
         obtain ⟨r1, r2, r3, r4⟩ := blk2 rb))
  all_goals
    have rB := blk2 (blk2_set2 (u := .slice a1 cuts.length k1) (v := .slice a2 owners.length k2) rb)
    have ho1 := own_set2 (p := ⟨w.heap.size + 1, 0, none⟩) (q := ⟨w.heap.size + 1, 1, none⟩) (u := .slice a1 cuts.length k1) (u' := .slice a2 owners.length k2) hc1 (by simp) (by simp)
    have ho2 := own_set2 (p := ⟨w.heap.size + 1, 0, none⟩) (q := ⟨w.heap.size + 1, 1, none⟩) (u := .slice a1 cuts.length k1) (u' := .slice a2 owners.length k2) hc2 (by simp) (by simp)
    have hx : Ext w ((w1.setCell ⟨w.heap.size + 1, 0, none⟩ (.slice a1 cuts.length k1)).setCell ⟨w.heap.size + 1, 1, none⟩ (.slice a2 owners.length k2)) := by
      exact Ext.setCell (Ext.setCell hE (by simp) _) (by simp) _
    go_wp2
    refine bodyPost_ret (v := .agg #[.slice a1 cuts.length k1, .slice a2 owners.length k2]) (by simp [results, Tryz.results31, go_sem, rB.1, rB.2.1]) rfl ⟨_, rfl, ⟨_, _, rfl, own_base ho1 (by omega), own_base ho2 (by omega)⟩, hx⟩
end Go.Proofs.YtimchedebcoohaaGreatDoor

/- Contracts and lemmas for the proofs of this seat; each theorem states its own conditions. -/
namespace Go.Proofs.YtimchedebcoohaaGreatDoor
open Go.RowKit
/-- whose a key is -/
def whose (cuts : List ByteArray) (owners : List Int) (key : ByteArray) : Int := owners.getD (idx (leAt cuts key) cuts.length) 0
theorem whose_of {cuts : List ByteArray} {owners : List Int} {key : ByteArray} {i : Nat} (hs : srt cuts) (h : cutAt (bltAt cuts key) cuts.length i) : whose cuts owners key = owners.getD (if hitS cuts key i then i + 1 else i) 0 := by
  unfold whose; rw [idx_spec _ _ _ (cut_le hs h)]
set_option maxRecDepth 10000 in
theorem of_any (v : Value) (cuts : List ByteArray) (owners : List Int) (key : ByteArray) (w : World) (hv : IsMap w v cuts owners) (hs : srt cuts) (hl : owners.length = cuts.length + 1) (hn : cuts.length < 1000000) :
    Calls Tryz.prog 41 #[v, .string key] w fun e w' => e = .returned (.int .i64 (whose cuts owners key)) ∧ Ext w w' := by
  obtain ⟨c, o, rfl, h1, h2⟩ := hv
  have HL := (show Hid (owners.length = cuts.length + 1) from hl)
  clear hl
  obtain ⟨h20, a2, k2, rfl, h21, h22, h23⟩ := h2
  unfold maxLen at h22
  have hl1 : cuts.length + 1 ≤ owners.length := by have := HL.out; omega
  obtain ⟨b, off, rfl, hc⟩ := h23 (by omega)
  go_enter Tryz.func41, Tryz.ntmps41
  go_wp2_with fail
  refine (bsearch_any c cuts key _ (h1.ext (by (repeat (first | (with_reducible assumption) | (with_reducible exact Ext.refl _) | (with_reducible refine Ext.drew ?_) | (with_reducible refine Ext.drewN ?_ _) | (with_reducible refine Ext.alloc ?_ _) | (with_reducible refine Ext.trans ?_ (by with_reducible assumption)))))) (dropsB_blt hs key) (by omega)).mono ?_
  rintro e w' ⟨i, hi, rfl, rfl⟩
  have hw := whose_of (owners := owners) hs hi
  have hin := hi.1
  cases hh : hitS cuts key i with
  | true =>
    have hi1 : i < cuts.length := by
      by_cases h : i < cuts.length
      · exact h
      · rw [hitS_out h] at hh; cases hh
    have hc1 := hc _ _ (cI_at0 owners (i + 1) (by omega))
    rw [hh, if_pos rfl] at hw
    have HW := (show Hid (whose cuts owners key = _) from hw)
    clear hw hc h23
    have hc2 : ((w.alloc (.cells #[c, .slice (some ⟨b, off, none⟩) owners.length k2] 25))).cell? ⟨b, off + (i + 1), none⟩ = some (.int .i64 (owners[i + 1]'(by omega))) := ((Ext.refl w).alloc _).cell hc1
    go_wp2
    go_ret
    exact ⟨rI (by rw [HW.out]; simp [show i + 1 < owners.length by omega]), by (repeat (first | (with_reducible assumption) | (with_reducible exact Ext.refl _) | (with_reducible refine Ext.drew ?_) | (with_reducible refine Ext.drewN ?_ _) | (with_reducible refine Ext.alloc ?_ _) | (with_reducible refine Ext.trans ?_ (by with_reducible assumption))))⟩
  | false =>
    have hc1 := hc _ _ (cI_at0 owners i (by omega))
    rw [hh, if_neg (by simp)] at hw
    have HW := (show Hid (whose cuts owners key = _) from hw)
    clear hw hc h23
    have hc2 : ((w.alloc (.cells #[c, .slice (some ⟨b, off, none⟩) owners.length k2] 25))).cell? ⟨b, off + i, none⟩ = some (.int .i64 (owners[i]'(by omega))) := ((Ext.refl w).alloc _).cell hc1
    go_wp2
    go_ret
    exact ⟨rI (by rw [HW.out]; simp [show i < owners.length by omega]), by (repeat (first | (with_reducible assumption) | (with_reducible exact Ext.refl _) | (with_reducible refine Ext.drew ?_) | (with_reducible refine Ext.drewN ?_ _) | (with_reducible refine Ext.alloc ?_ _) | (with_reducible refine Ext.trans ?_ (by with_reducible assumption))))⟩
/-- P22 -/
def cutOk (cuts : List ByteArray) (i : Nat) : Bool := keyB (kAt cuts i) && (i == 0 || blt (kAt cuts (i - 1)) (kAt cuts i))
def ownOk (owners : List Int) (i : Nat) : Bool := decide (0 ≤ owners.getD i 0) && decide (owners.getD i 0 < 4)
def mapErr (cuts : List ByteArray) (owners : List Int) : Int :=
  if 12 < cuts.length then 2 else if owners.length ≠ cuts.length + 1 then 3
  else if (List.range cuts.length).all (cutOk cuts) then (if (List.range owners.length).all (ownOk owners) then 0 else 1) else 3
structure MapOk (cuts : List ByteArray) (owners : List Int) : Prop where
  few : cuts.length ≤ 12
  len : owners.length = cuts.length + 1
  cut : allTo (cutOk cuts) cuts.length
  own : allTo (ownOk owners) owners.length
theorem MapOk.srt {cuts : List ByteArray} {owners : List Int} (h : MapOk cuts owners) : srt cuts := srt_adj fun i hi => by
  have := h.cut (i + 1) hi
  simp [cutOk] at this
  exact this.2
theorem mapErr_ok {cuts : List ByteArray} {owners : List Int} (h : MapOk cuts owners) : mapErr cuts owners = 0 := by
  unfold mapErr
  rw [if_neg (by have := h.few; omega), if_neg (by simp [h.len]), if_pos (all_true h.cut), if_pos (all_true h.own)]
theorem ok_of_mapErr {cuts : List ByteArray} {owners : List Int} (h : mapErr cuts owners = 0) : MapOk cuts owners := by
  unfold mapErr at h
  split at h
  · cases h
  · rename_i h1
    split at h
    · cases h
    · rename_i h2
      split at h
      · rename_i h3
        split at h
        · rename_i h4
          exact ⟨by omega, by simpa using h2, allTo_of h3, allTo_of h4⟩
        · cases h
      · cases h
end Go.Proofs.YtimchedebcoohaaGreatDoor
