/- Contracts and lemmas for the proof of TopLog; each theorem states its own conditions. -/
import Derived.Test.YtddghaoejnbkaaaGreatDoorQTopLogag
import Derived.Test.YtddghaoejnbkaaaGreatDoorQTopLogab
import Derived.Deep.CutBlock
set_option linter.unusedVariables false
set_option linter.unusedSimpArgs false
/- Contracts and lemmas for the proofs of this seat; each theorem states its own conditions. -/
namespace Go.Proofs.YtddghaoejnbkaaaGreatDoor
open Go.RowKit
/-- the cuts that a map of numbers may have -/
def nmL : List ByteArray := [⟨#[97]⟩, ⟨#[98]⟩, ⟨#[98, 98]⟩, ⟨#[100]⟩, ⟨#[109]⟩, ⟨#[112]⟩]
def takeB (l : List Int) (i : Nat) : Bool := decide (i < l.length) && decide (0 < wi (l.getD i 0) 3)
def mkC (l : List Int) : Nat → List ByteArray
  | 0 => []
  | k + 1 => if takeB l k then mkC l k ++ [kAt nmL k] else mkC l k
def mkO (l : List Int) : Nat → List Int
  | 0 => [0]
  | k + 1 => if takeB l k then mkO l k ++ [wi ((l.getD k 0).tdiv 3) 4] else mkO l k
theorem mkC_len (l : List Int) : ∀ k, (mkC l k).length ≤ k
  | 0 => by simp [mkC]
  | k + 1 => by have := mkC_len l k; simp only [mkC]; split <;> simp <;> omega
theorem mkO_len (l : List Int) : ∀ k, (mkO l k).length = (mkC l k).length + 1
  | 0 => by simp [mkC, mkO]
  | k + 1 => by have := mkO_len l k; simp only [mkC, mkO]; split <;> simp [this]
/-- what stands after k rounds -/
def KM (w wr : World) (l : List Int) (k : Nat) : Prop :=
  ∃ a1 c1 a2 c2, wr.heap[w.heap.size + 1 + 1]? = some (.cells #[.slice a1 (mkC l k).length c1, .slice a2 (mkO l k).length c2] 34 (0, 0)) ∧
    wr.ownsRow (w.heap.size + 1 + 1 + 1 + 1) 9 1 (.slice a1 (mkC l k).length c1) (mkC l k).length (cS (mkC l k)) ∧
    wr.ownsRow w.heap.size 3 1 (.slice a2 (mkO l k).length c2) (mkO l k).length (cI (mkO l k)) ∧
    wr.heap[w.heap.size]? = some (.cells #[.slice none 0 0, .slice none 0 0] 34 (0, 0)) ∧
    wr.heap[w.heap.size + 1 + 1 + 1]? = some (.cells (cS nmL).toArray 9 (0, 0)) ∧ Ext w wr
/-- the invariant of the statement with the two appends -/
structure GM (w : World) (v1 v2 : Value) (C : List ByteArray) (O : List Int) (y1 : ByteArray) (y2 : Int) (L : Nat → Bool) (x : Nat → Value) (w' : World) : Prop where
  ext : Ext w w'
  res : w'.heap[w.heap.size]? = some (.cells #[.slice none 0 0, .slice none 0 0] 34 (0, 0))
  nam : w'.heap[w.heap.size + 1 + 1 + 1]? = some (.cells (cS nmL).toArray 9 (0, 0))
  box : w'.heap[w.heap.size + 1 + 1]? = some (.cells #[if L 16 then x 4 else v1, if L 18 then x 14 else v2] 34 (0, 0))
  na : L 3 = true → L 4 = false → ∃ b, x 3 = .slice (some ⟨b, 0, none⟩) 1 1 ∧ w.heap.size + 1 + 1 + 1 + 1 ≤ b ∧ w'.heap[b]? = some (.cells #[.string y1] 9 (0, 0))
  oa : L 4 = false → w'.ownsRow (w.heap.size + 1 + 1 + 1 + 1) 9 1 v1 C.length (cS C)
  oa' : L 4 = true → (∃ a c, x 4 = .slice a (C.length + 1) c) ∧ w'.ownsRow (w.heap.size + 1 + 1 + 1 + 1) 9 1 (x 4) (C.length + 1) (cS C ++ [.string y1])
  nb : L 13 = true → L 14 = false → ∃ b, x 13 = .slice (some ⟨b, 0, none⟩) 1 1 ∧ w.heap.size + 1 + 1 + 1 + 1 ≤ b ∧ w'.heap[b]? = some (.cells #[.int .i64 y2] 3 (0, 0))
  ob : L 14 = false → w'.ownsRow w.heap.size 3 1 v2 O.length (cI O)
  ob' : L 14 = true → (∃ a c, x 14 = .slice a (O.length + 1) c) ∧ w'.ownsRow w.heap.size 3 1 (x 14) (O.length + 1) (cI O ++ [.int .i64 y2])
theorem GM.quiet {w w' : World} {v1 v2 : Value} {C : List ByteArray} {O : List Int} {y1 : ByteArray} {y2 : Int} {L : Nat → Bool} {x : Nat → Value} (h : GM w v1 v2 C O y1 y2 L x w') (i : Nat) (v : Value)
    (hi : i ≠ 3 ∧ i ≠ 4 ∧ i ≠ 13 ∧ i ≠ 14 ∧ i ≠ 16 ∧ i ≠ 18) : GM w v1 v2 C O y1 y2 (upd L i true) (upd x i v) w' := by
  obtain ⟨h3, h4, h13, h14, h16, h18⟩ := hi
  have e (j : Nat) (hj : i ≠ j) : upd L i true j = L j := upd_ne _ _ (Ne.symm hj)
  have e' (j : Nat) (hj : i ≠ j) : upd x i v j = x j := upd_ne _ _ (Ne.symm hj)
  refine ⟨h.ext, h.res, h.nam, ?_, ?_, ?_, ?_, ?_, ?_, ?_⟩
  · rw [e _ h16, e _ h18, e' _ h4, e' _ h14]; exact h.box
  · rw [e _ h3, e' _ h3, e _ h4]; exact h.na
  · rw [e _ h4]; exact h.oa
  · rw [e _ h4, e' _ h4]; exact h.oa'
  · rw [e _ h13, e' _ h13, e _ h14]; exact h.nb
  · rw [e _ h14]; exact h.ob
  · rw [e _ h14, e' _ h14]; exact h.ob'
theorem GM.box0 {w w' : World} {v1 v2 : Value} {C : List ByteArray} {O : List Int} {y1 : ByteArray} {y2 : Int} {L : Nat → Bool} {x : Nat → Value} (h : GM w v1 v2 C O y1 y2 L x w') (h16 : L 16 = false) (h18 : L 18 = false) :
    w'.heap[w.heap.size + 1 + 1]? = some (.cells #[v1, v2] 34 (0, 0)) := by
  have := h.box; rw [h16, h18] at this; simpa using this
theorem GM.big {w w' : World} {v1 v2 : Value} {C : List ByteArray} {O : List Int} {y1 : ByteArray} {y2 : Int} {L : Nat → Bool} {x : Nat → Value} (h : GM w v1 v2 C O y1 y2 L x w') : w.heap.size + 1 + 1 + 1 + 1 ≤ w'.heap.size := (Array.getElem?_eq_some_iff.1 h.nam).1
theorem GM.bsA {w w' : World} {v1 v2 : Value} {C : List ByteArray} {O : List Int} {y1 : ByteArray} {y2 : Int} {L : Nat → Bool} {x : Nat → Value} (h : GM w v1 v2 C O y1 y2 L x w') : GM w v1 v2 C O y1 y2 (upd L 3 true) (upd x 3 (.slice (some ⟨w'.heap.size, 0, none⟩) 1 1)) (w'.alloc (.cells #[.string y1] 9)) := by
  have k := (Ext.refl w').alloc (.cells #[.string y1] 9)
  refine ⟨h.ext.trans k, k.heap h.res, k.heap h.nam, k.heap h.box, fun _ _ => ⟨_, rfl, h.big, heap_alloc_new _ _⟩, fun q => (h.oa q).alloc _, fun q => ⟨(h.oa' q).1, (h.oa' q).2.alloc _⟩, fun q q' => ?_, fun q => (h.ob q).alloc _, fun q => ⟨(h.ob' q).1, (h.ob' q).2.alloc _⟩⟩
  obtain ⟨b, q1, q2, q3⟩ := h.nb q q'
  exact ⟨b, q1, q2, k.heap q3⟩
theorem GM.bsB {w w' : World} {v1 v2 : Value} {C : List ByteArray} {O : List Int} {y1 : ByteArray} {y2 : Int} {L : Nat → Bool} {x : Nat → Value} (h : GM w v1 v2 C O y1 y2 L x w') : GM w v1 v2 C O y1 y2 (upd L 13 true) (upd x 13 (.slice (some ⟨w'.heap.size, 0, none⟩) 1 1)) (w'.alloc (.cells #[.int .i64 y2] 3)) := by
  have k := (Ext.refl w').alloc (.cells #[.int .i64 y2] 3)
  refine ⟨h.ext.trans k, k.heap h.res, k.heap h.nam, k.heap h.box, fun q q' => ?_, fun q => (h.oa q).alloc _, fun q => ⟨(h.oa' q).1, (h.oa' q).2.alloc _⟩, fun _ _ => ⟨_, rfl, h.big, heap_alloc_new _ _⟩, fun q => (h.ob q).alloc _, fun q => ⟨(h.ob' q).1, (h.ob' q).2.alloc _⟩⟩
  obtain ⟨b, q1, q2, q3⟩ := h.na q q'
  exact ⟨b, q1, q2, k.heap q3⟩
theorem GM.apA {w w' : World} {v1 v2 : Value} {C : List ByteArray} {O : List Int} {y1 : ByteArray} {y2 : Int} {L : Nat → Bool} {x : Nat → Value} {w1 : World} {v' : Value} (h : GM w v1 v2 C O y1 y2 L x w') (h4 : L 4 = false) (h13 : L 13 = false) (h14 : L 14 = false) (h16 : L 16 = false) (h18 : L 18 = false)
    (ho : w1.ownsRow (w.heap.size + 1 + 1 + 1 + 1) 9 1 v' (C.length + 1) (cS C ++ [.string y1])) (hg : w'.grownBy w1 v1.ownBlock) : GM w v1 v2 C O y1 y2 (upd L 4 true) (upd x 4 v') w1 := by
  have o1 := h.oa h4
  have ge := own_ge o1
  have far : ∀ k, k < w.heap.size + 1 + 1 + 1 + 1 → v1.ownBlock ≠ some k := fun k hk e => by have := ge k e; omega
  refine ⟨h.ext.grown hg (fun k e => by have := ge k e; omega), grown_heap hg h.res (far _ (by omega)), grown_heap hg h.nam (far _ (by omega)), ?_, fun _ q => absurd q (by simp [upd]), fun q => absurd q (by simp [upd]), fun _ => ⟨own_form ho, ho⟩, fun q => absurd q (by simp [upd, h13]), fun _ => grown_own hg (h.ob h14) (own_own_ne (h.ob h14) o1 (by decide)), fun q => absurd q (by simp [upd, h14])⟩
  have b := grown_heap hg (h.box0 h16 h18) (far _ (by omega))
  simpa [upd, h16, h18] using b
theorem GM.apB {w w' : World} {v1 v2 : Value} {C : List ByteArray} {O : List Int} {y1 : ByteArray} {y2 : Int} {L : Nat → Bool} {x : Nat → Value} {w1 : World} {v' : Value} (h : GM w v1 v2 C O y1 y2 L x w') (h4 : L 4 = true) (h14 : L 14 = false) (h16 : L 16 = false) (h18 : L 18 = false)
    (ho : w1.ownsRow w.heap.size 3 1 v' (O.length + 1) (cI O ++ [.int .i64 y2])) (hg : w'.grownBy w1 v2.ownBlock) : GM w v1 v2 C O y1 y2 (upd L 14 true) (upd x 14 v') w1 := by
  have o1 := h.ob h14
  have ge := own_ge o1
  refine ⟨h.ext.grown hg (fun k e => by have := ge k e; omega), grown_heap hg h.res (own_ne o1 h.res (by decide)), grown_heap hg h.nam (own_ne o1 h.nam (by decide)), ?_, fun _ q => absurd q (by simp [upd, h4]), fun q => absurd q (by simp [upd, h4]), fun _ => ⟨(h.oa' h4).1, grown_own hg (h.oa' h4).2 (own_own_ne (h.oa' h4).2 o1 (by decide))⟩, fun _ q => absurd q (by simp [upd]), fun q => absurd q (by simp [upd]), fun _ => ⟨own_form ho, ho⟩⟩
  have b := grown_heap hg (h.box0 h16 h18) (own_ne o1 (h.box0 h16 h18) (by decide))
  simpa [upd, h16, h18] using b
theorem GM.stA {w w' : World} {v1 v2 : Value} {C : List ByteArray} {O : List Int} {y1 : ByteArray} {y2 : Int} {L : Nat → Bool} {x : Nat → Value} (h : GM w v1 v2 C O y1 y2 L x w') (h4 : L 4 = true) (h14 : L 14 = true) (h16 : L 16 = false) (h18 : L 18 = false) (v : Value) :
    GM w v1 v2 C O y1 y2 (upd L 16 true) (upd x 16 v) (w'.setCell ⟨w.heap.size + 1 + 1, 0, none⟩ (x 4)) := by
  have b := h.box0 h16 h18
  refine ⟨h.ext.setCell (by show _ ≤ w.heap.size + 1 + 1; omega) _, heap_set_far h.res (by show _ ≠ w.heap.size + 1 + 1; omega), heap_set_far h.nam (by show _ ≠ w.heap.size + 1 + 1; omega), ?_, fun _ q => absurd q (by simp [upd, h4]), fun q => absurd q (by simp [upd, h4]), fun _ => ⟨(h.oa' h4).1, own_set_other (h.oa' h4).2 (own_ne (h.oa' h4).2 b (by decide)) _⟩, fun _ q => absurd q (by simp [upd, h14]), fun q => absurd q (by simp [upd, h14]), fun _ => ⟨(h.ob' h14).1, own_set_other (h.ob' h14).2 (own_ne (h.ob' h14).2 b (by decide)) _⟩⟩
  simp [upd, h18, World.setCell, Array.getElem?_modify, b]
theorem GM.box1 {w w' : World} {v1 v2 : Value} {C : List ByteArray} {O : List Int} {y1 : ByteArray} {y2 : Int} {L : Nat → Bool} {x : Nat → Value} (h : GM w v1 v2 C O y1 y2 L x w') (h16 : L 16 = true) (h18 : L 18 = false) : w'.heap[w.heap.size + 1 + 1]? = some (.cells #[x 4, v2] 34 (0, 0)) := by
  have := h.box; rw [h16, h18] at this; simpa using this
theorem GM.stB {w w' : World} {v1 v2 : Value} {C : List ByteArray} {O : List Int} {y1 : ByteArray} {y2 : Int} {L : Nat → Bool} {x : Nat → Value} (h : GM w v1 v2 C O y1 y2 L x w') (h4 : L 4 = true) (h14 : L 14 = true) (h16 : L 16 = true) (h18 : L 18 = false) (v : Value) :
    GM w v1 v2 C O y1 y2 (upd L 18 true) (upd x 18 v) (w'.setCell ⟨w.heap.size + 1 + 1, 1, none⟩ (x 14)) := by
  have b := h.box1 h16 h18
  refine ⟨h.ext.setCell (by show _ ≤ w.heap.size + 1 + 1; omega) _, heap_set_far h.res (by show _ ≠ w.heap.size + 1 + 1; omega), heap_set_far h.nam (by show _ ≠ w.heap.size + 1 + 1; omega), ?_, fun _ q => absurd q (by simp [upd, h4]), fun q => absurd q (by simp [upd, h4]), fun _ => ⟨(h.oa' h4).1, own_set_other (h.oa' h4).2 (own_ne (h.oa' h4).2 b (by decide)) _⟩, fun _ q => absurd q (by simp [upd, h14]), fun q => absurd q (by simp [upd, h14]), fun _ => ⟨(h.ob' h14).1, own_set_other (h.ob' h14).2 (own_ne (h.ob' h14).2 b (by decide)) _⟩⟩
  simp [upd, h16, World.setCell, Array.getElem?_modify, b]
theorem takeB_yes {l : List Int} {k : Nat} (hl : k < l.length) (ht : 0 < wi l[k] 3) : takeB l k = true := by simp [takeB, hl, ht]
theorem takeB_no {l : List Int} {k : Nat} (hl : k < l.length) (ht : ¬ 0 < wi l[k] 3) : takeB l k = false := by simp [takeB, hl]; omega
theorem takeB_out {l : List Int} {k : Nat} (hl : ¬ k < l.length) : takeB l k = false := by simp [takeB, hl]
theorem KM_no {w wr : World} {l : List Int} {k : Nat} (h : KM w wr l k) (ht : takeB l k = false) : KM w wr l (k + 1) := by
  have e1 : mkC l (k + 1) = mkC l k := by simp [mkC, ht]
  have e2 : mkO l (k + 1) = mkO l k := by simp [mkO, ht]
  unfold KM; rw [e1, e2]; exact h
theorem KM_yes {w w' : World} {l : List Int} {k : Nat} (hl : k < l.length) (hk : k < nmL.length) (ht : takeB l k = true) {v1 v2 : Value} {L : Nat → Bool} {x : Nat → Value}
    (h : GM w v1 v2 (mkC l k) (mkO l k) nmL[k] (wi (l[k].tdiv 3) 4) L x w') (h4 : L 4 = true) (h14 : L 14 = true) (h16 : L 16 = true) (h18 : L 18 = true) : KM w w' l (k + 1) := by
  have e1 : mkC l (k + 1) = mkC l k ++ [nmL[k]] := by simp [mkC, ht, kAt_eq hk]
  have e2 : mkO l (k + 1) = mkO l k ++ [wi (l[k].tdiv 3) 4] := by simp [mkO, ht, hl]
  obtain ⟨⟨a4, c4, e4⟩, o4⟩ := h.oa' h4
  obtain ⟨⟨a14, c14, e14⟩, o14⟩ := h.ob' h14
  have b := h.box
  rw [h16, h18, if_pos rfl, if_pos rfl, e4, e14] at b
  rw [e4] at o4; rw [e14] at o14
  unfold KM
  rw [e1, e2, List.length_append, List.length_append]
  exact ⟨a4, c4, a14, c14, b, by simpa [cS] using o4, by simpa [cI] using o14, h.res, h.nam, h.ext⟩
set_option maxRecDepth 10000 in
set_option maxHeartbeats 1000000 in
theorem kMap_any (v : Value) (l : List Int) (w : World) (hv : Seg w v 1 l.length (cI l)) (hb : ∀ z ∈ l, -9223372036854775808 ≤ z ∧ z ≤ 9223372036854775807) :
    Calls Tryz.prog 10 #[v] w fun e w' => ∃ v', e = .returned v' ∧ OwnMap w' w.heap.size v' (mkC l 6) (mkO l 6) ∧ Ext w w' := by
  obtain ⟨h0, a, cap, rfl, h1, h2, h3⟩ := hv
  unfold maxLen at h2
  go_enter Tryz.func10, Tryz.ntmps10
  go_wp2
  go_loopw [4, 5, 10] (fun _ _ i wr => ∃ k : Nat, k ≤ 6 ∧ i = .int .i64 k ∧ KM w wr l k) (fun _ _ i _ => 6 - (intOf i).toNat)
  case atStart =>
    obtain ⟨e1, e2, e3, e4⟩ := heap_alloc4 w (.cells #[.slice none 0 0, .slice none 0 0] 34) (.cells #[.int .i64 0] 3) (.cells #[.slice none 0 0, .slice (some ⟨w.heap.size + 1, 0, none⟩) 1 1] 34) (.cells (cS nmL).toArray 9)
    exact ⟨0, by omega, rfl, none, 0, some ⟨w.heap.size + 1, 0, none⟩, 1, e3, World.ownsRow_nil _ _ _ _,
      ⟨rfl, .inr ⟨w.heap.size + 1, 1, _, rfl, by omega, e2, Nat.le_refl _, by simp [maxLen], rfl, rfl⟩⟩, e1, e4, by (repeat (first | (with_reducible assumption) | (with_reducible exact Ext.refl _) | (with_reducible refine Ext.drew ?_) | (with_reducible refine Ext.drewN ?_ _) | (with_reducible refine Ext.alloc ?_ _) | (with_reducible refine Ext.trans ?_ (by with_reducible assumption))))⟩
  case round =>
    obtain ⟨k, hk, rfl, a1, c1, a2, c2, q1, q2, q3, q4, q5, q6⟩ := hrel
    have x1 := blk2 q1
    by_cases hlt : k < 6
    · have x2 := cells_of q5 k _ (cS_at0 nmL k hlt)
      by_cases hl : k < l.length
      · obtain ⟨b, off, rfl, hc⟩ := h3 (by omega)
        have x3a := hc _ _ (cI_at0 l k hl)
        have x3 := q6.cell x3a
        clear hc h3
        by_cases ht : 0 < wi l[k] 3
        · go_upto_region 6 with (first | (go_at_call 16; refine (within_any _ _ _ (by omega) (by omega)).mono ?_; rintro e w' ⟨rfl, rfl⟩))
          have hd3 : IntKind.i64.wrap (l[k].tdiv 3) = l[k].tdiv 3 := by
            have := hb l[k] (List.getElem_mem hl)
            have e : l[k].tdiv 3 = l[k] / 3 ∨ l[k].tdiv 3 = l[k] / 3 + 1 := by
              rcases Int.le_total 0 l[k] with h | h
              · left; rw [Int.tdiv_eq_ediv_of_nonneg h]
              · rw [Int.tdiv_eq_ediv]; split <;> simp_all <;> omega
            rw [IntKind.wrap_i64]; omega
          refine wp_region_lit_inv (by kernel_rfl) (by kernel_rfl) (fun i => match i with
            | 0 => some (.pointer (some ⟨w.heap.size + 1 + 1, 0, none⟩)) | 1 => some (.slice a1 (mkC l k).length c1) | 2 => some (.string (nmL[k]'hlt))
            | 5 => some (.pointer (some ⟨w.heap.size + 1 + 1, 1, none⟩)) | 6 => some (.slice a2 (mkO l k).length c2) | 7 => some (.slice (some ⟨b, off, none⟩) l.length cap) | 8 => some (.int .i64 k)
            | 9 => some (.pointer (some ⟨b, off + k, none⟩)) | 10 => some (.int .i64 l[k]) | 11 => some (.int .i64 (l[k].tdiv 3)) | 12 => some (.int .i64 (wi (l[k].tdiv 3) 4))
            | 15 => some (.pointer (some ⟨w.heap.size + 1 + 1, 0, none⟩)) | 17 => some (.pointer (some ⟨w.heap.size + 1 + 1, 1, none⟩)) | _ => none)
            (GM w (.slice a1 (mkC l k).length c1) (.slice a2 (mkO l k).length c2) (mkC l k) (mkO l k) (nmL[k]'hlt) (wi (l[k].tdiv 3) 4)) ?h0 ?hs ?he
          case h0 => exact ⟨q6.drew, q4, q5, q1, by simp, fun _ => q2, by simp, by simp, fun _ => q3, by simp⟩
          case hs =>
            refine ⟨?s0, ?s1, ?s2, ?s3, ?s4, ?s5, ?s6, ?s7, ?s8, ?s9, ?s10, ?s11, ?s12, ?s13, ?s14, ?s15, ?s16, ?s17, ?s18, trivial⟩
            case s0 =>
              intro L x w' hL hcl hd hG
              simp [Region.binds] at hd
              simp only [frL]
              go_wp2
              exact hG.quiet 0 _ (by decide)
            case s1 =>
              intro L x w' hL hcl hd hG
              simp [Region.binds] at hd
              have bx := blk2 (hG.box0 (hcl.notYet (j := 16) (i := 1) (by kernel_rfl) hL) (hcl.notYet (j := 18) (i := 1) (by kernel_rfl) hL))
              simp only [frL]
              go_wp2
              exact hG.quiet 1 _ (by decide)
            case s2 =>
              intro L x w' hL hcl hd hG
              simp [Region.binds] at hd
              simp only [frL]
              go_wp2
              exact hG.quiet 2 _ (by decide)
            case s3 =>
              intro L x w' hL hcl hd hG
              simp [Region.binds] at hd
              simp only [frL]
              go_wp2
              exact hG.bsA
            case s4 =>
              intro L x w' hL hcl hd hG
              simp [Region.binds] at hd
              have n13 := hcl.notYet (j := 12) (i := 4) (by kernel_rfl) hL
              have n13 := hcl.notYet (j := 13) (i := 12) (by kernel_rfl) n13
              have n14 := hcl.notYet (j := 14) (i := 13) (by kernel_rfl) n13
              have n16 := hcl.notYet (j := 16) (i := 4) (by kernel_rfl) hL
              have n18 := hcl.notYet (j := 18) (i := 4) (by kernel_rfl) hL
              obtain ⟨b3, e3, g3, k3⟩ := hG.na hd.2 hL
              have o3 := hG.oa hL
              have z3 := hG.big
              have fin := fun v' w1 => GM.apA (v' := v') (w1 := w1) hG hL n13 n14 n16 n18
              have FIN := hid fin
              clear fin n13 n14 n16 n18
              simp only [frL, List.length_cons, List.length_nil, List.take_succ_cons, List.take_zero, Nat.reduceAdd, Nat.zero_add, List.setIfInBounds_toArray, List.set_cons_zero, List.set_cons_succ, hd.1.2, e3]
              refine wpList_app ?r1 (.tmp 28) (.tmp 30) 32 ?r2 (w.heap.size + 1 + 1 + 1 + 1) 9 (.string ⟨#[]⟩) 1 16 Tryz.underlying32 info_Str ?r3 (by decide) (.slice a1 (mkC l k).length c1) (mkC l k).length (cS (mkC l k)) ?r4 o3 (.slice (some ⟨b3, 0, none⟩) 1 1) 1 [.string (nmL[k]'hlt)] ?r5 (seg_one k3) ?c1 ?c2 ?c3 z3 ?_
              case r1 => rfl
              case r2 => rfl
              case r3 => rfl
              case r4 => rfl
              case r5 => rfl
              case c1 => intro u hu; simp at hu; subst hu; rfl
              case c2 => have := mkC_len l k; omega
              case c3 => have := mkC_len l k; unfold maxLen; omega
              intro v' w1 ho hg
              exact wpList_nil ⟨rfl, v', rfl, by simp, FIN.out _ _ ho hg⟩
            case s5 =>
              intro L x w' hL hcl hd hG
              simp [Region.binds] at hd
              simp only [frL]
              go_wp2
              exact hG.quiet 5 _ (by decide)
            case s6 =>
              intro L x w' hL hcl hd hG
              simp [Region.binds] at hd
              have bx := blk2 (hG.box0 (hcl.notYet (j := 16) (i := 6) (by kernel_rfl) hL) (hcl.notYet (j := 18) (i := 6) (by kernel_rfl) hL))
              simp only [frL]
              go_wp2
              exact hG.quiet 6 _ (by decide)
            case s7 =>
              intro L x w' hL hcl hd hG
              simp [Region.binds] at hd
              simp only [frL]
              go_wp2
              exact hG.quiet 7 _ (by decide)
            case s8 =>
              intro L x w' hL hcl hd hG
              simp [Region.binds] at hd
              simp only [frL]
              go_wp2
              exact hG.quiet 8 _ (by decide)
            case s9 =>
              intro L x w' hL hcl hd hG
              simp [Region.binds] at hd
              simp only [frL]
              go_wp2
              exact hG.quiet 9 _ (by decide)
            case s10 =>
              intro L x w' hL hcl hd hG
              simp [Region.binds] at hd
              have x3' := hG.ext.cell x3a
              simp only [frL]
              go_wp2
              exact hG.quiet 10 _ (by decide)
            case s11 =>
              intro L x w' hL hcl hd hG
              simp [Region.binds] at hd
              simp only [frL]
              go_wp2
              exact hG.quiet 11 _ (by decide)
            case s12 =>
              intro L x w' hL hcl hd hG
              simp [Region.binds] at hd
              simp only [frL]
              go_wp2_with (first | (go_at_call 16; refine (within_any _ _ _ (by omega) (by omega)).mono ?_; rintro e w' ⟨rfl, rfl⟩))
              exact hG.quiet 12 _ (by decide)
            case s13 =>
              intro L x w' hL hcl hd hG
              simp [Region.binds] at hd
              simp only [frL, List.length_cons, List.length_nil, List.take_succ_cons, List.take_zero, Nat.reduceAdd, Nat.zero_add, List.setIfInBounds_toArray, List.set_cons_zero, List.set_cons_succ, hd.2]
              go_wp2
              exact hG.bsB
            case s14 =>
              intro L x w' hL hcl hd hG
              simp [Region.binds] at hd
              obtain ⟨⟨_, hd6⟩, hd13, hd12, _⟩ := hd
              have d4 := hcl.done (j := 12) (i := 4) (by kernel_rfl) hd12
              have n16 := hcl.notYet (j := 16) (i := 14) (by kernel_rfl) hL
              have n18 := hcl.notYet (j := 18) (i := 14) (by kernel_rfl) hL
              obtain ⟨b13, e13, g13, k13⟩ := hG.nb hd13 hL
              have o13 := hG.ob hL
              have z13 := hG.big
              have fin := fun v' w1 => GM.apB (v' := v') (w1 := w1) hG d4 hL n16 n18
              have FIN := hid fin
              clear fin d4 n16 n18
              simp only [frL, List.length_cons, List.length_nil, List.take_succ_cons, List.take_zero, Nat.reduceAdd, Nat.zero_add, List.setIfInBounds_toArray, List.set_cons_zero, List.set_cons_succ, hd6, e13]
              refine wpList_app ?r1 (.tmp 33) (.tmp 40) 22 ?r2 w.heap.size 3 (.int .i64 0) 1 8 Tryz.underlying22 info_Int ?r3 (by decide) (.slice a2 (mkO l k).length c2) (mkO l k).length (cI (mkO l k)) ?r4 o13 (.slice (some ⟨b13, 0, none⟩) 1 1) 1 [.int .i64 (wi (l[k].tdiv 3) 4)] ?r5 (seg_one k13) ?c1 ?c2 ?c3 (by omega) ?_
              case r1 => rfl
              case r2 => rfl
              case r3 => rfl
              case r4 => rfl
              case r5 => rfl
              case c1 => intro u hu; simp at hu; subst hu; rfl
              case c2 => have := mkC_len l k; have := mkO_len l k; omega
              case c3 => have := mkC_len l k; have := mkO_len l k; unfold maxLen; omega
              intro v' w1 ho hg
              exact wpList_nil ⟨rfl, v', rfl, by simp, FIN.out _ _ ho hg⟩
            case s15 =>
              intro L x w' hL hcl hd hG
              simp [Region.binds] at hd
              simp only [frL]
              go_wp2
              exact hG.quiet 15 _ (by decide)
            case s16 =>
              intro L x w' hL hcl hd hG
              have d4 := hcl
              simp [Region.binds] at hd
              have d14 : L 14 = true := by simp_all
              have d4 : L 4 = true := by simp_all
              have d15 : x 15 = .pointer (some ⟨w.heap.size + 1 + 1, 0, none⟩) := by simp_all
              have n18 := hcl.notYet (j := 18) (i := 16) (by kernel_rfl) hL
              have b := blk2 (hG.box0 hL n18)
              obtain ⟨⟨a4, c4, e4⟩, _⟩ := hG.oa' d4
              have F := hG.stA d4 d14 hL n18 undef
              rw [e4] at F
              clear hd hcl
              simp only [frL, List.length_cons, List.length_nil, List.take_succ_cons, List.take_zero, Nat.reduceAdd, Nat.zero_add, List.setIfInBounds_toArray, List.set_cons_zero, List.set_cons_succ, d15, e4]
              go_wp2
              exact ⟨_, F⟩
            case s17 =>
              intro L x w' hL hcl hd hG
              simp [Region.binds] at hd
              simp only [frL]
              go_wp2
              exact hG.quiet 17 _ (by decide)
            case s18 =>
              intro L x w' hL hcl hd hG
              simp [Region.binds] at hd
              have d16 : L 16 = true := by simp_all
              have d14 : L 14 = true := by simp_all
              have d4 : L 4 = true := by simp_all
              have d17 : x 17 = .pointer (some ⟨w.heap.size + 1 + 1, 1, none⟩) := by simp_all
              have b := blk2 (hG.box1 d16 hL)
              obtain ⟨⟨a14, c14, e14⟩, _⟩ := hG.ob' d14
              have F := hG.stB d4 d14 d16 hL undef
              rw [e14] at F
              clear hd hcl
              simp only [frL, List.length_cons, List.length_nil, List.take_succ_cons, List.take_zero, Nat.reduceAdd, Nat.zero_add, List.setIfInBounds_toArray, List.set_cons_zero, List.set_cons_succ, d17, e14]
              go_wp2
              exact ⟨_, F⟩
          case he =>
            intro L x w' hd hG
            have hKM := KM_yes hl hlt (takeB_yes hl ht) hG (hd 4 (by decide)).1 (hd 14 (by decide)).1 (hd 16 (by decide)).1 (hd 18 (by decide)).1
            clear hd hG
            simp only [frL, List.length_cons, List.length_nil, List.take_succ_cons, List.take_zero, Nat.reduceAdd, Nat.zero_add, List.setIfInBounds_toArray, List.set_cons_zero, List.set_cons_succ]
            go_wp2
            go_roundw
            case rel => exact ⟨k + 1, by omega, by go_num, hKM⟩
            case measure => simp [intOf]; omega
        · go_wp2_with (first | (go_at_call 16; refine (within_any _ _ _ (by omega) (by omega)).mono ?_; rintro e w' ⟨rfl, rfl⟩))
          go_roundw
          case rel => exact ⟨k + 1, by omega, by go_num, KM_no ⟨a1, c1, a2, c2, q1, q2, q3, q4, q5, q6⟩ (takeB_no hl (by omega))⟩
          case measure => simp [intOf]; omega
      · go_wp2_with fail
        go_roundw
        case rel => exact ⟨k + 1, by omega, by go_num, KM_no ⟨a1, c1, a2, c2, q1, q2, q3, q4, q5, q6⟩ (takeB_out hl)⟩
        case measure => simp [intOf]; omega
    · obtain rfl : k = 6 := by omega
      have x4 := blk2 q4
      have rB := blk2 (blk2_set2 (u := .slice a1 (mkC l 6).length c1) (v := .slice a2 (mkO l 6).length c2) q4)
      have p1 := own_set2 (p := ⟨w.heap.size, 0, none⟩) (q := ⟨w.heap.size, 1, none⟩) (u := .slice a1 (mkC l 6).length c1) (u' := .slice a2 (mkO l 6).length c2) q2 (by show w.heap.size < _; omega) (by show w.heap.size < _; omega)
      have p2 := own_set_other (own_set_other q3 (p := ⟨w.heap.size, 0, none⟩) (own_ne q3 q4 (by decide)) (.slice a1 (mkC l 6).length c1)) (p := ⟨w.heap.size, 1, none⟩) (own_ne q3 q4 (by decide)) (.slice a2 (mkO l 6).length c2)
      have F := hid (And.intro (And.intro (own_base (B' := w.heap.size) p1 (by omega)) p2) ((q6.setCell (p := ⟨w.heap.size, 0, none⟩) (Nat.le_refl _) (.slice a1 (mkC l 6).length c1)).setCell (p := ⟨w.heap.size, 1, none⟩) (Nat.le_refl _) (.slice a2 (mkO l 6).length c2)))
      clear p1 p2
      go_wp2
      exact bodyPost_ret (v := .agg #[.slice a1 (mkC l 6).length c1, .slice a2 (mkO l 6).length c2]) (by simp [results, Tryz.results10, go_sem, rB.1, rB.2.1]) rfl ⟨_, rfl, ⟨_, _, rfl, F.out.1.1, F.out.1.2⟩, F.out.2⟩
end Go.Proofs.YtddghaoejnbkaaaGreatDoor
