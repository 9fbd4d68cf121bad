/- Contracts and lemmas for the proof of ShardFind; each theorem states its own conditions. -/
import Derived.Test.YtnepdfpooobmcaaDoorQShardFindah
set_option linter.unusedVariables false
set_option linter.unusedSimpArgs false
/- Contracts and lemmas for the proofs of this seat; each theorem states its own conditions. -/
namespace Go.Proofs.YtnepdfpooobmcaaDoor
open Go.RowKit
/-- whose a key is -/
def whose (cuts : List ByteArray) (owners : List Int) (key : ByteArray) : Int := owners.getD (idx (leAt cuts key) cuts.length) 0
theorem whose_of {cuts : List ByteArray} {owners : List Int} {key : ByteArray} {i : Nat} (hs : srt cuts) (h : cutAt (bltAt cuts key) cuts.length i) : whose cuts owners key = owners.getD (if hitS cuts key i then i + 1 else i) 0 := by
  unfold whose; rw [idx_spec _ _ _ (cut_le hs h)]
set_option maxRecDepth 10000 in
theorem of_any (v : Value) (cuts : List ByteArray) (owners : List Int) (key : ByteArray) (w : World) (hv : IsMap w v cuts owners) (hs : srt cuts) (hl : owners.length = cuts.length + 1) (hn : cuts.length < 1000000) :
    Calls Tryd.prog 66 #[v, .string key] w fun e w' => e = .returned (.int .i64 (whose cuts owners key)) ∧ Ext w w' := by
  obtain ⟨c, o, rfl, h1, h2⟩ := hv
  have HL := (show Hid (owners.length = cuts.length + 1) from hl)
  clear hl
  obtain ⟨h20, a2, k2, rfl, h21, h22, h23⟩ := h2
  unfold maxLen at h22
  have hl1 : cuts.length + 1 ≤ owners.length := by have := HL.out; omega
  obtain ⟨b, off, rfl, hc⟩ := h23 (by omega)
  go_enter Tryd.func66, Tryd.ntmps66
  go_wp2_with fail
  refine (bsearch_any c cuts key _ (h1.ext (by (repeat (first | (with_reducible assumption) | (with_reducible exact Ext.refl _) | (with_reducible refine Ext.drew ?_) | (with_reducible refine Ext.drewN ?_ _) | (with_reducible refine Ext.alloc ?_ _) | (with_reducible refine Ext.trans ?_ (by with_reducible assumption)))))) (dropsB_blt hs key) (by omega)).mono ?_
  rintro e w' ⟨i, hi, rfl, rfl⟩
  have hw := whose_of (owners := owners) hs hi
  have hin := hi.1
  cases hh : hitS cuts key i with
  | true =>
    have hi1 : i < cuts.length := by
      by_cases h : i < cuts.length
      · exact h
      · rw [hitS_out h] at hh; cases hh
    have hc1 := hc _ _ (cI_at0 owners (i + 1) (by omega))
    rw [hh, if_pos rfl] at hw
    have HW := (show Hid (whose cuts owners key = _) from hw)
    clear hw hc h23
    have hc2 : ((w.alloc (.cells #[c, .slice (some ⟨b, off, none⟩) owners.length k2] 25))).cell? ⟨b, off + (i + 1), none⟩ = some (.int .i64 (owners[i + 1]'(by omega))) := ((Ext.refl w).alloc _).cell hc1
    go_wp2
    go_ret
    exact ⟨rI (by rw [HW.out]; simp [show i + 1 < owners.length by omega]), by (repeat (first | (with_reducible assumption) | (with_reducible exact Ext.refl _) | (with_reducible refine Ext.drew ?_) | (with_reducible refine Ext.drewN ?_ _) | (with_reducible refine Ext.alloc ?_ _) | (with_reducible refine Ext.trans ?_ (by with_reducible assumption))))⟩
  | false =>
    have hc1 := hc _ _ (cI_at0 owners i (by omega))
    rw [hh, if_neg (by simp)] at hw
    have HW := (show Hid (whose cuts owners key = _) from hw)
    clear hw hc h23
    have hc2 : ((w.alloc (.cells #[c, .slice (some ⟨b, off, none⟩) owners.length k2] 25))).cell? ⟨b, off + i, none⟩ = some (.int .i64 (owners[i]'(by omega))) := ((Ext.refl w).alloc _).cell hc1
    go_wp2
    go_ret
    exact ⟨rI (by rw [HW.out]; simp [show i < owners.length by omega]), by (repeat (first | (with_reducible assumption) | (with_reducible exact Ext.refl _) | (with_reducible refine Ext.drew ?_) | (with_reducible refine Ext.drewN ?_ _) | (with_reducible refine Ext.alloc ?_ _) | (with_reducible refine Ext.trans ?_ (by with_reducible assumption))))⟩
/-- P22 -/
def cutOk (cuts : List ByteArray) (i : Nat) : Bool := keyB (kAt cuts i) && (i == 0 || blt (kAt cuts (i - 1)) (kAt cuts i))
def ownOk (owners : List Int) (i : Nat) : Bool := decide (0 ≤ owners.getD i 0) && decide (owners.getD i 0 < 4)
def mapErr (cuts : List ByteArray) (owners : List Int) : Int :=
  if 12 < cuts.length then 2 else if owners.length ≠ cuts.length + 1 then 3
  else if (List.range cuts.length).all (cutOk cuts) then (if (List.range owners.length).all (ownOk owners) then 0 else 1) else 3
structure MapOk (cuts : List ByteArray) (owners : List Int) : Prop where
  few : cuts.length ≤ 12
  len : owners.length = cuts.length + 1
  cut : allTo (cutOk cuts) cuts.length
  own : allTo (ownOk owners) owners.length
theorem MapOk.srt {cuts : List ByteArray} {owners : List Int} (h : MapOk cuts owners) : srt cuts := srt_adj fun i hi => by
  have := h.cut (i + 1) hi
  simp [cutOk] at this
  exact this.2
theorem mapErr_ok {cuts : List ByteArray} {owners : List Int} (h : MapOk cuts owners) : mapErr cuts owners = 0 := by
  unfold mapErr
  rw [if_neg (by have := h.few; omega), if_neg (by simp [h.len]), if_pos (all_true h.cut), if_pos (all_true h.own)]
theorem ok_of_mapErr {cuts : List ByteArray} {owners : List Int} (h : mapErr cuts owners = 0) : MapOk cuts owners := by
  unfold mapErr at h
  split at h
  · cases h
  · rename_i h1
    split at h
    · cases h
    · rename_i h2
      split at h
      · rename_i h3
        split at h
        · rename_i h4
          exact ⟨by omega, by simpa using h2, allTo_of h3, allTo_of h4⟩
        · cases h
      · cases h
end Go.Proofs.YtnepdfpooobmcaaDoor
