/- Contracts and lemmas for the proof of ShardSays; each theorem states its own conditions. -/
import Derived.Test.YtghemmmkbpfdhaaDoorQShardSaysad
import Derived.Test.YtghemmmkbpfdhaaDoorQShardSaysae
set_option linter.unusedVariables false
set_option linter.unusedSimpArgs false
/- Contracts and lemmas for the proofs of this seat; each theorem states its own conditions. -/
namespace Go.Proofs.YtghemmmkbpfdhaaDoor
open Go.RowKit

structure TP (w1 : World) (bx : Nat) (v1 v2 : Value) (C : List ByteArray) (O : List Int) (y1 : ByteArray) (y2 : Int) (L : Nat → Bool) (x : Nat → Value) (w' : World) : Prop where
  ext : Ext w1 w'
  new : w1.heap.size ≤ bx
  box : w'.heap[bx]? = some (.cells #[if L 11 then x 4 else v1, if L 13 then x 9 else v2] 28 (0, 0))
  na : L 3 = true → L 4 = false → ∃ b, x 3 = .slice (some ⟨b, 0, none⟩) 1 1 ∧ w'.heap[b]? = some (.cells #[.string y1] 9 (0, 0))
  oa : L 4 = false → w'.ownsRow w1.heap.size 9 1 v1 C.length (cS C)
  oa' : L 4 = true → (∃ a c, x 4 = .slice a (C.length + 1) c) ∧ w'.ownsRow w1.heap.size 9 1 (x 4) (C.length + 1) (cS C ++ [.string y1])
  nb : L 8 = true → L 9 = false → ∃ b, x 8 = .slice (some ⟨b, 0, none⟩) 1 1 ∧ w'.heap[b]? = some (.cells #[.int .i64 y2] 3 (0, 0)) ∧ (L 4 = false → v1.ownBlock ≠ some b) ∧ v2.ownBlock ≠ some b
  ob : L 9 = false → w'.ownsRow w1.heap.size 3 1 v2 O.length (cI O)
  ob' : L 9 = true → (∃ a c, x 9 = .slice a (O.length + 1) c) ∧ w'.ownsRow w1.heap.size 3 1 (x 9) (O.length + 1) (cI O ++ [.int .i64 y2])
theorem TP.big {w1 w' : World} {bx : Nat} {v1 v2 : Value} {C : List ByteArray} {O : List Int} {y1 : ByteArray} {y2 : Int} {L : Nat → Bool} {x : Nat → Value} (h : TP w1 bx v1 v2 C O y1 y2 L x w') : w1.heap.size ≤ w'.heap.size := h.ext.size'
theorem TP.quiet {w1 w' : World} {bx : Nat} {v1 v2 : Value} {C : List ByteArray} {O : List Int} {y1 : ByteArray} {y2 : Int} {L : Nat → Bool} {x : Nat → Value} (h : TP w1 bx v1 v2 C O y1 y2 L x w') (i : Nat) (v : Value)
    (hi : i ≠ 3 ∧ i ≠ 4 ∧ i ≠ 8 ∧ i ≠ 9 ∧ i ≠ 11 ∧ i ≠ 13) : TP w1 bx v1 v2 C O y1 y2 (upd L i true) (upd x i v) w' := by
  obtain ⟨hia, hja, hib, hjb, hsa, hsb⟩ := hi
  have e (j : Nat) (hj : i ≠ j) : upd L i true j = L j := upd_ne _ _ (Ne.symm hj)
  have e' (j : Nat) (hj : i ≠ j) : upd x i v j = x j := upd_ne _ _ (Ne.symm hj)
  refine ⟨h.ext, h.new, ?_, ?_, ?_, ?_, ?_, ?_, ?_⟩
  · rw [e _ hsa, e _ hsb, e' _ hja, e' _ hjb]; exact h.box
  · rw [e _ hia, e' _ hia, e _ hja]; exact h.na
  · rw [e _ hja]; exact h.oa
  · rw [e _ hja, e' _ hja]; exact h.oa'
  · rw [e _ hib, e' _ hib, e _ hjb, e _ hja]; exact h.nb
  · rw [e _ hjb]; exact h.ob
  · rw [e _ hjb, e' _ hjb]; exact h.ob'
theorem TP.box0 {w1 w' : World} {bx : Nat} {v1 v2 : Value} {C : List ByteArray} {O : List Int} {y1 : ByteArray} {y2 : Int} {L : Nat → Bool} {x : Nat → Value} (h : TP w1 bx v1 v2 C O y1 y2 L x w') (hsa : L 11 = false) (hsb : L 13 = false) : w'.heap[bx]? = some (.cells #[v1, v2] 28 (0, 0)) := by
  have := h.box; rw [hsa, hsb] at this; simpa using this
theorem TP.box1 {w1 w' : World} {bx : Nat} {v1 v2 : Value} {C : List ByteArray} {O : List Int} {y1 : ByteArray} {y2 : Int} {L : Nat → Bool} {x : Nat → Value} (h : TP w1 bx v1 v2 C O y1 y2 L x w') (hsa : L 11 = true) (hsb : L 13 = false) : w'.heap[bx]? = some (.cells #[x 4, v2] 28 (0, 0)) := by
  have := h.box; rw [hsa, hsb] at this; simpa using this
theorem TP.bsA {w1 w' : World} {bx : Nat} {v1 v2 : Value} {C : List ByteArray} {O : List Int} {y1 : ByteArray} {y2 : Int} {L : Nat → Bool} {x : Nat → Value} (h : TP w1 bx v1 v2 C O y1 y2 L x w') : TP w1 bx v1 v2 C O y1 y2 (upd L 3 true) (upd x 3 (.slice (some ⟨w'.heap.size, 0, none⟩) 1 1)) (w'.alloc (.cells #[.string y1] 9)) := by
  have k := (Ext.refl w').alloc (.cells #[.string y1] 9)
  refine ⟨h.ext.trans k, h.new, k.heap h.box, fun _ _ => ⟨_, rfl, heap_alloc_new _ _⟩, fun q => (h.oa q).alloc _, fun q => ⟨(h.oa' q).1, (h.oa' q).2.alloc _⟩, fun q q' => ?_, fun q => (h.ob q).alloc _, fun q => ⟨(h.ob' q).1, (h.ob' q).2.alloc _⟩⟩
  obtain ⟨b, q1, q2, q3, q4⟩ := h.nb q q'
  exact ⟨b, q1, k.heap q2, q3, q4⟩
theorem TP.bsB {w1 w' : World} {bx : Nat} {v1 v2 : Value} {C : List ByteArray} {O : List Int} {y1 : ByteArray} {y2 : Int} {L : Nat → Bool} {x : Nat → Value} (h : TP w1 bx v1 v2 C O y1 y2 L x w') (hjb : L 9 = false) : TP w1 bx v1 v2 C O y1 y2 (upd L 8 true) (upd x 8 (.slice (some ⟨w'.heap.size, 0, none⟩) 1 1)) (w'.alloc (.cells #[.int .i64 y2] 3)) := by
  have k := (Ext.refl w').alloc (.cells #[.int .i64 y2] 3)
  refine ⟨h.ext.trans k, h.new, k.heap h.box, fun q q' => ?_, fun q => (h.oa q).alloc _, fun q => ⟨(h.oa' q).1, (h.oa' q).2.alloc _⟩, fun _ _ => ⟨_, rfl, heap_alloc_new _ _, fun q e => ?_, fun e => ?_⟩, fun q => (h.ob q).alloc _, fun q => ⟨(h.ob' q).1, (h.ob' q).2.alloc _⟩⟩
  · obtain ⟨b, q1, q2⟩ := h.na q q'
    exact ⟨b, q1, k.heap q2⟩
  · have := ((h.oa q).lt _ e).2; omega
  · have := ((h.ob hjb).lt _ e).2; omega
theorem TP.apA {w1 w' : World} {bx : Nat} {v1 v2 : Value} {C : List ByteArray} {O : List Int} {y1 : ByteArray} {y2 : Int} {L : Nat → Bool} {x : Nat → Value} {w2 : World} {v' : Value} (h : TP w1 bx v1 v2 C O y1 y2 L x w') (hja : L 4 = false) (hjb : L 9 = false) (hsa : L 11 = false) (hsb : L 13 = false)
    (ho : w2.ownsRow w1.heap.size 9 1 v' (C.length + 1) (cS C ++ [.string y1])) (hg : w'.grownBy w2 v1.ownBlock) : TP w1 bx v1 v2 C O y1 y2 (upd L 4 true) (upd x 4 v') w2 := by
  have o1 := h.oa hja
  refine ⟨h.ext.grown hg (own_ge o1), h.new, ?_, fun _ q => absurd q (by simp [upd]), fun q => absurd q (by simp [upd]), fun _ => ⟨own_form ho, ho⟩, fun q q' => ?_, fun _ => grown_own hg (h.ob hjb) (own_own_ne (h.ob hjb) o1 (by decide)), fun q => absurd q (by simp [upd, hjb])⟩
  · have b := grown_heap hg (h.box0 hsa hsb) (own_ne o1 (h.box0 hsa hsb) (by decide))
    simpa [upd, hsa, hsb] using b
  · obtain ⟨b, q1, q2, q3, q4⟩ := h.nb (by simpa [upd] using q) hjb
    exact ⟨b, by simpa [upd] using q1, grown_heap hg q2 (q3 hja), fun q => absurd q (by simp [upd]), q4⟩
theorem TP.apB {w1 w' : World} {bx : Nat} {v1 v2 : Value} {C : List ByteArray} {O : List Int} {y1 : ByteArray} {y2 : Int} {L : Nat → Bool} {x : Nat → Value} {w2 : World} {v' : Value} (h : TP w1 bx v1 v2 C O y1 y2 L x w') (hja : L 4 = true) (hjb : L 9 = false) (hsa : L 11 = false) (hsb : L 13 = false)
    (ho : w2.ownsRow w1.heap.size 3 1 v' (O.length + 1) (cI O ++ [.int .i64 y2])) (hg : w'.grownBy w2 v2.ownBlock) : TP w1 bx v1 v2 C O y1 y2 (upd L 9 true) (upd x 9 v') w2 := by
  have o1 := h.ob hjb
  refine ⟨h.ext.grown hg (own_ge o1), h.new, ?_, fun _ q => absurd q (by simp [upd, hja]), fun q => absurd q (by simp [upd, hja]), fun _ => ⟨(h.oa' hja).1, grown_own hg (h.oa' hja).2 (own_own_ne (h.oa' hja).2 o1 (by decide))⟩, fun _ q => absurd q (by simp [upd]), fun q => absurd q (by simp [upd]), fun _ => ⟨own_form ho, ho⟩⟩
  have b := grown_heap hg (h.box0 hsa hsb) (own_ne o1 (h.box0 hsa hsb) (by decide))
  simpa [upd, hsa, hsb] using b
theorem TP.stA {w1 w' : World} {bx : Nat} {v1 v2 : Value} {C : List ByteArray} {O : List Int} {y1 : ByteArray} {y2 : Int} {L : Nat → Bool} {x : Nat → Value} (h : TP w1 bx v1 v2 C O y1 y2 L x w') (hja : L 4 = true) (hjb : L 9 = true) (hsa : L 11 = false) (hsb : L 13 = false) (v : Value) :
    TP w1 bx v1 v2 C O y1 y2 (upd L 11 true) (upd x 11 v) (w'.setCell ⟨bx, 0, none⟩ (x 4)) := by
  have b := h.box0 hsa hsb
  refine ⟨h.ext.setCell h.new _, h.new, ?_, fun _ q => absurd q (by simp [upd, hja]), fun q => absurd q (by simp [upd, hja]), fun _ => ⟨(h.oa' hja).1, own_set_other (h.oa' hja).2 (own_ne (h.oa' hja).2 b (by decide)) _⟩, fun _ q => absurd q (by simp [upd, hjb]), fun q => absurd q (by simp [upd, hjb]), fun _ => ⟨(h.ob' hjb).1, own_set_other (h.ob' hjb).2 (own_ne (h.ob' hjb).2 b (by decide)) _⟩⟩
  simp [upd, hsb, World.setCell, Array.getElem?_modify, b]
theorem TP.stB {w1 w' : World} {bx : Nat} {v1 v2 : Value} {C : List ByteArray} {O : List Int} {y1 : ByteArray} {y2 : Int} {L : Nat → Bool} {x : Nat → Value} (h : TP w1 bx v1 v2 C O y1 y2 L x w') (hja : L 4 = true) (hjb : L 9 = true) (hsa : L 11 = true) (hsb : L 13 = false) (v : Value) :
    TP w1 bx v1 v2 C O y1 y2 (upd L 13 true) (upd x 13 v) (w'.setCell ⟨bx, 1, none⟩ (x 9)) := by
  have b := h.box1 hsa hsb
  refine ⟨h.ext.setCell h.new _, h.new, ?_, fun _ q => absurd q (by simp [upd, hja]), fun q => absurd q (by simp [upd, hja]), fun _ => ⟨(h.oa' hja).1, own_set_other (h.oa' hja).2 (own_ne (h.oa' hja).2 b (by decide)) _⟩, fun _ q => absurd q (by simp [upd, hjb]), fun q => absurd q (by simp [upd, hjb]), fun _ => ⟨(h.ob' hjb).1, own_set_other (h.ob' hjb).2 (own_ne (h.ob' hjb).2 b (by decide)) _⟩⟩
  simp [upd, hsa, World.setCell, Array.getElem?_modify, b]

end Go.Proofs.YtghemmmkbpfdhaaDoor

/- Contracts and lemmas for the proofs of this seat; each theorem states its own conditions. -/
namespace Go.Proofs.YtghemmmkbpfdhaaDoor
open Go.RowKit
/-- whose a key is -/
def whose (cuts : List ByteArray) (owners : List Int) (key : ByteArray) : Int := owners.getD (idx (leAt cuts key) cuts.length) 0
theorem whose_of {cuts : List ByteArray} {owners : List Int} {key : ByteArray} {i : Nat} (hs : srt cuts) (h : cutAt (bltAt cuts key) cuts.length i) : whose cuts owners key = owners.getD (if hitS cuts key i then i + 1 else i) 0 := by
  unfold whose; rw [idx_spec _ _ _ (cut_le hs h)]
set_option maxRecDepth 10000 in
theorem of_any (v : Value) (cuts : List ByteArray) (owners : List Int) (key : ByteArray) (w : World) (hv : IsMap w v cuts owners) (hs : srt cuts) (hl : owners.length = cuts.length + 1) (hn : cuts.length < 1000000) :
    Calls Tryd.prog 49 #[v, .string key] w fun e w' => e = .returned (.int .i64 (whose cuts owners key)) ∧ Ext w w' := by
  obtain ⟨c, o, rfl, h1, h2⟩ := hv
  have HL := (show Hid (owners.length = cuts.length + 1) from hl)
  clear hl
  obtain ⟨h20, a2, k2, rfl, h21, h22, h23⟩ := h2
  unfold maxLen at h22
  have hl1 : cuts.length + 1 ≤ owners.length := by have := HL.out; omega
  obtain ⟨b, off, rfl, hc⟩ := h23 (by omega)
  go_enter Tryd.func49, Tryd.ntmps49
  go_wp2_with fail
  refine (bsearch_any c cuts key _ (h1.ext (by (repeat (first | (with_reducible assumption) | (with_reducible exact Ext.refl _) | (with_reducible refine Ext.drew ?_) | (with_reducible refine Ext.drewN ?_ _) | (with_reducible refine Ext.alloc ?_ _) | (with_reducible refine Ext.trans ?_ (by with_reducible assumption)))))) (dropsB_blt hs key) (by omega)).mono ?_
  rintro e w' ⟨i, hi, rfl, rfl⟩
  have hw := whose_of (owners := owners) hs hi
  have hin := hi.1
  cases hh : hitS cuts key i with
  | true =>
    have hi1 : i < cuts.length := by
      by_cases h : i < cuts.length
      · exact h
      · rw [hitS_out h] at hh; cases hh
    have hc1 := hc _ _ (cI_at0 owners (i + 1) (by omega))
    rw [hh, if_pos rfl] at hw
    have HW := (show Hid (whose cuts owners key = _) from hw)
    clear hw hc h23
    have hc2 : ((w.alloc (.cells #[c, .slice (some ⟨b, off, none⟩) owners.length k2] 28))).cell? ⟨b, off + (i + 1), none⟩ = some (.int .i64 (owners[i + 1]'(by omega))) := ((Ext.refl w).alloc _).cell hc1
    go_wp2
    go_ret
    exact ⟨rI (by rw [HW.out]; simp [show i + 1 < owners.length by omega]), by (repeat (first | (with_reducible assumption) | (with_reducible exact Ext.refl _) | (with_reducible refine Ext.drew ?_) | (with_reducible refine Ext.drewN ?_ _) | (with_reducible refine Ext.alloc ?_ _) | (with_reducible refine Ext.trans ?_ (by with_reducible assumption))))⟩
  | false =>
    have hc1 := hc _ _ (cI_at0 owners i (by omega))
    rw [hh, if_neg (by simp)] at hw
    have HW := (show Hid (whose cuts owners key = _) from hw)
    clear hw hc h23
    have hc2 : ((w.alloc (.cells #[c, .slice (some ⟨b, off, none⟩) owners.length k2] 28))).cell? ⟨b, off + i, none⟩ = some (.int .i64 (owners[i]'(by omega))) := ((Ext.refl w).alloc _).cell hc1
    go_wp2
    go_ret
    exact ⟨rI (by rw [HW.out]; simp [show i < owners.length by omega]), by (repeat (first | (with_reducible assumption) | (with_reducible exact Ext.refl _) | (with_reducible refine Ext.drew ?_) | (with_reducible refine Ext.drewN ?_ _) | (with_reducible refine Ext.alloc ?_ _) | (with_reducible refine Ext.trans ?_ (by with_reducible assumption))))⟩
/-- P22 -/
def cutOk (cuts : List ByteArray) (i : Nat) : Bool := keyB (kAt cuts i) && (i == 0 || blt (kAt cuts (i - 1)) (kAt cuts i))
def ownOk (owners : List Int) (i : Nat) : Bool := decide (0 ≤ owners.getD i 0) && decide (owners.getD i 0 < 4)
def mapErr (cuts : List ByteArray) (owners : List Int) : Int :=
  if 12 < cuts.length then 2 else if owners.length ≠ cuts.length + 1 then 3
  else if (List.range cuts.length).all (cutOk cuts) then (if (List.range owners.length).all (ownOk owners) then 0 else 1) else 3
structure MapOk (cuts : List ByteArray) (owners : List Int) : Prop where
  few : cuts.length ≤ 12
  len : owners.length = cuts.length + 1
  cut : allTo (cutOk cuts) cuts.length
  own : allTo (ownOk owners) owners.length
theorem MapOk.srt {cuts : List ByteArray} {owners : List Int} (h : MapOk cuts owners) : srt cuts := srt_adj fun i hi => by
  have := h.cut (i + 1) hi
  simp [cutOk] at this
  exact this.2
theorem mapErr_ok {cuts : List ByteArray} {owners : List Int} (h : MapOk cuts owners) : mapErr cuts owners = 0 := by
  unfold mapErr
  rw [if_neg (by have := h.few; omega), if_neg (by simp [h.len]), if_pos (all_true h.cut), if_pos (all_true h.own)]
theorem ok_of_mapErr {cuts : List ByteArray} {owners : List Int} (h : mapErr cuts owners = 0) : MapOk cuts owners := by
  unfold mapErr at h
  split at h
  · cases h
  · rename_i h1
    split at h
    · cases h
    · rename_i h2
      split at h
      · rename_i h3
        split at h
        · rename_i h4
          exact ⟨by omega, by simpa using h2, allTo_of h3, allTo_of h4⟩
        · cases h
      · cases h
end Go.Proofs.YtghemmmkbpfdhaaDoor
