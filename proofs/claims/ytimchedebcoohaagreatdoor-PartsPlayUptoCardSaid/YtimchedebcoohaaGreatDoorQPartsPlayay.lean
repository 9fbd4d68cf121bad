/- Contracts and lemmas for the proof of PartsPlay; each theorem states its own conditions. -/
import Derived.Test.YtimchedebcoohaaGreatDoorQPartsPlayas
import Derived.Test.YtimchedebcoohaaGreatDoorQPartsPlayau
import Derived.Deep.Cut
import Derived.Test.YtimchedebcoohaaGreatDoorQPartsPlayaj
import Derived.Deep.CutBlock
set_option linter.unusedVariables false
set_option linter.unusedSimpArgs false
/- Contracts and lemmas for the proofs of this seat; each theorem states its own conditions. -/
namespace Go.Proofs.YtimchedebcoohaaGreatDoor
open Go.RowKit
def sameB (c c' : List ByteArray) (o o' : List Int) : Bool := decide (c = c') && decide (o = o')
set_option maxRecDepth 10000 in
theorem sameMap_any (v u : Value) (c c' : List ByteArray) (o o' : List Int) (w : World) (hv : IsMap w v c o) (hu : IsMap w u c' o') :
    Calls Tryz.prog 26 #[v, u] w fun e w' => e = .returned (.bool (sameB c c' o o')) ∧ Ext w w' := by
  obtain ⟨c1, o1, rfl, h1, h2⟩ := hv
  obtain ⟨c2, o2, rfl, h3, h4⟩ := hu
  by_cases g1 : c = c'
  · have q : decide (c = c') = true := by simp [g1]
    have e1 : sameB c c' o o' = decide (o = o') := by simp [sameB, g1]
    have E1 := (show Hid (sameB c c' o o' = decide (o = o')) from e1)
    clear e1 g1
    go_enter Tryz.func26, Tryz.ntmps26
    go_wp2_with fail
    refine (equal_Str c1 c2 c c' _ (h1.ext (by (repeat (first | (with_reducible assumption) | (with_reducible exact Ext.refl _) | (with_reducible refine Ext.drew ?_) | (with_reducible refine Ext.drewN ?_ _) | (with_reducible refine Ext.alloc ?_ _) | (with_reducible refine Ext.trans ?_ (by with_reducible assumption)))))) (h3.ext (by (repeat (first | (with_reducible assumption) | (with_reducible exact Ext.refl _) | (with_reducible refine Ext.drew ?_) | (with_reducible refine Ext.drewN ?_ _) | (with_reducible refine Ext.alloc ?_ _) | (with_reducible refine Ext.trans ?_ (by with_reducible assumption))))))).mono ?_
    rintro e w1 ⟨rfl, d, rfl⟩
    go_wp2_with fail
    refine (equal_Int o1 o2 o o' _ (h2.ext (by (repeat (first | (with_reducible assumption) | (with_reducible exact Ext.refl _) | (with_reducible refine Ext.drew ?_) | (with_reducible refine Ext.drewN ?_ _) | (with_reducible refine Ext.alloc ?_ _) | (with_reducible refine Ext.trans ?_ (by with_reducible assumption)))))) (h4.ext (by (repeat (first | (with_reducible assumption) | (with_reducible exact Ext.refl _) | (with_reducible refine Ext.drew ?_) | (with_reducible refine Ext.drewN ?_ _) | (with_reducible refine Ext.alloc ?_ _) | (with_reducible refine Ext.trans ?_ (by with_reducible assumption))))))).mono ?_
    rintro e w2 ⟨rfl, d', rfl⟩
    go_wp2
    go_ret
    exact ⟨rB E1.out.symm, by (repeat (first | (with_reducible assumption) | (with_reducible exact Ext.refl _) | (with_reducible refine Ext.drew ?_) | (with_reducible refine Ext.drewN ?_ _) | (with_reducible refine Ext.alloc ?_ _) | (with_reducible refine Ext.trans ?_ (by with_reducible assumption))))⟩
  · have q : decide (c = c') = false := by simp [g1]
    have e1 : sameB c c' o o' = false := by simp [sameB, g1]
    have E1 := (show Hid (sameB c c' o o' = false) from e1)
    clear e1 g1
    go_enter Tryz.func26, Tryz.ntmps26
    go_wp2_with fail
    refine (equal_Str c1 c2 c c' _ (h1.ext (by (repeat (first | (with_reducible assumption) | (with_reducible exact Ext.refl _) | (with_reducible refine Ext.drew ?_) | (with_reducible refine Ext.drewN ?_ _) | (with_reducible refine Ext.alloc ?_ _) | (with_reducible refine Ext.trans ?_ (by with_reducible assumption)))))) (h3.ext (by (repeat (first | (with_reducible assumption) | (with_reducible exact Ext.refl _) | (with_reducible refine Ext.drew ?_) | (with_reducible refine Ext.drewN ?_ _) | (with_reducible refine Ext.alloc ?_ _) | (with_reducible refine Ext.trans ?_ (by with_reducible assumption))))))).mono ?_
    rintro e w1 ⟨rfl, d, rfl⟩
    go_wp2
    go_ret
    exact ⟨rB E1.out.symm, by (repeat (first | (with_reducible assumption) | (with_reducible exact Ext.refl _) | (with_reducible refine Ext.drew ?_) | (with_reducible refine Ext.drewN ?_ _) | (with_reducible refine Ext.alloc ?_ _) | (with_reducible refine Ext.trans ?_ (by with_reducible assumption))))⟩
def giveE (cuts : List ByteArray) (owners : List Int) (i n : Int) : Int := if mapErr cuts owners ≠ 0 then mapErr cuts owners else if i < 0 ∨ owners.length ≤ i ∨ n < 0 ∨ 4 ≤ n then 1 else 0
def nilMap : Value := .agg #[.slice none 0 0, .slice none 0 0]
/-- what a function answers that makes a map -/
def MapRes (w w' : World) (e : Ending) (er : Int) (cuts : List ByteArray) (owners : List Int) : Prop :=
  ∃ v', e = .returned (.tuple #[v', .int .i64 er]) ∧ (er = 0 → OwnMap w' w.heap.size v' cuts owners) ∧ (er ≠ 0 → v' = nilMap)
theorem mapRes_bad {w w' : World} {er : Int} {cuts : List ByteArray} {owners : List Int} {e : Ending} (h : er ≠ 0) (he : e = .returned (.tuple #[nilMap, .int .i64 er])) : MapRes w w' e er cuts owners :=
  ⟨nilMap, he, fun h' => absurd h' h, fun _ => rfl⟩
end Go.Proofs.YtimchedebcoohaaGreatDoor

/- Contracts and lemmas for the proofs of this seat; each theorem states its own conditions. -/
namespace Go.Proofs.YtimchedebcoohaaGreatDoor
open Go.RowKit
/-- the cuts that a map of numbers may have -/
def nmL : List ByteArray := [⟨#[97]⟩, ⟨#[98]⟩, ⟨#[98, 98]⟩, ⟨#[100]⟩, ⟨#[109]⟩, ⟨#[112]⟩]
def takeB (l : List Int) (i : Nat) : Bool := decide (i < l.length) && decide (0 < wi (l.getD i 0) 3)
def mkC (l : List Int) : Nat → List ByteArray
  | 0 => []
  | k + 1 => if takeB l k then mkC l k ++ [kAt nmL k] else mkC l k
def mkO (l : List Int) : Nat → List Int
  | 0 => [0]
  | k + 1 => if takeB l k then mkO l k ++ [wi ((l.getD k 0).tdiv 3) 4] else mkO l k
theorem mkC_len (l : List Int) : ∀ k, (mkC l k).length ≤ k
  | 0 => by simp [mkC]
  | k + 1 => by have := mkC_len l k; simp only [mkC]; split <;> simp <;> omega
theorem mkO_len (l : List Int) : ∀ k, (mkO l k).length = (mkC l k).length + 1
  | 0 => by simp [mkC, mkO]
  | k + 1 => by have := mkO_len l k; simp only [mkC, mkO]; split <;> simp [this]
/-- what stands after k rounds -/
def KM (w wr : World) (l : List Int) (k : Nat) : Prop :=
  ∃ a1 c1 a2 c2, wr.heap[w.heap.size + 1 + 1]? = some (.cells #[.slice a1 (mkC l k).length c1, .slice a2 (mkO l k).length c2] 25 (0, 0)) ∧
    wr.ownsRow (w.heap.size + 1 + 1 + 1 + 1) 9 1 (.slice a1 (mkC l k).length c1) (mkC l k).length (cS (mkC l k)) ∧
    wr.ownsRow w.heap.size 3 1 (.slice a2 (mkO l k).length c2) (mkO l k).length (cI (mkO l k)) ∧
    wr.heap[w.heap.size]? = some (.cells #[.slice none 0 0, .slice none 0 0] 25 (0, 0)) ∧
    wr.heap[w.heap.size + 1 + 1 + 1]? = some (.cells (cS nmL).toArray 9 (0, 0)) ∧ Ext w wr
/-- the invariant of the statement with the two appends -/
structure GM (w : World) (v1 v2 : Value) (C : List ByteArray) (O : List Int) (y1 : ByteArray) (y2 : Int) (L : Nat → Bool) (x : Nat → Value) (w' : World) : Prop where
  ext : Ext w w'
  res : w'.heap[w.heap.size]? = some (.cells #[.slice none 0 0, .slice none 0 0] 25 (0, 0))
  nam : w'.heap[w.heap.size + 1 + 1 + 1]? = some (.cells (cS nmL).toArray 9 (0, 0))
  box : w'.heap[w.heap.size + 1 + 1]? = some (.cells #[if L 16 then x 4 else v1, if L 18 then x 14 else v2] 25 (0, 0))
  na : L 3 = true → L 4 = false → ∃ b, x 3 = .slice (some ⟨b, 0, none⟩) 1 1 ∧ w.heap.size + 1 + 1 + 1 + 1 ≤ b ∧ w'.heap[b]? = some (.cells #[.string y1] 9 (0, 0))
  oa : L 4 = false → w'.ownsRow (w.heap.size + 1 + 1 + 1 + 1) 9 1 v1 C.length (cS C)
  oa' : L 4 = true → (∃ a c, x 4 = .slice a (C.length + 1) c) ∧ w'.ownsRow (w.heap.size + 1 + 1 + 1 + 1) 9 1 (x 4) (C.length + 1) (cS C ++ [.string y1])
  nb : L 13 = true → L 14 = false → ∃ b, x 13 = .slice (some ⟨b, 0, none⟩) 1 1 ∧ w.heap.size + 1 + 1 + 1 + 1 ≤ b ∧ w'.heap[b]? = some (.cells #[.int .i64 y2] 3 (0, 0))
  ob : L 14 = false → w'.ownsRow w.heap.size 3 1 v2 O.length (cI O)
  ob' : L 14 = true → (∃ a c, x 14 = .slice a (O.length + 1) c) ∧ w'.ownsRow w.heap.size 3 1 (x 14) (O.length + 1) (cI O ++ [.int .i64 y2])
theorem GM.quiet {w w' : World} {v1 v2 : Value} {C : List ByteArray} {O : List Int} {y1 : ByteArray} {y2 : Int} {L : Nat → Bool} {x : Nat → Value} (h : GM w v1 v2 C O y1 y2 L x w') (i : Nat) (v : Value)
    (hi : i ≠ 3 ∧ i ≠ 4 ∧ i ≠ 13 ∧ i ≠ 14 ∧ i ≠ 16 ∧ i ≠ 18) : GM w v1 v2 C O y1 y2 (upd L i true) (upd x i v) w' := by
  obtain ⟨h3, h4, h13, h14, h16, h18⟩ := hi
  have e (j : Nat) (hj : i ≠ j) : upd L i true j = L j := upd_ne _ _ (Ne.symm hj)
  have e' (j : Nat) (hj : i ≠ j) : upd x i v j = x j := upd_ne _ _ (Ne.symm hj)
  refine ⟨h.ext, h.res, h.nam, ?_, ?_, ?_, ?_, ?_, ?_, ?_⟩
  · rw [e _ h16, e _ h18, e' _ h4, e' _ h14]; exact h.box
  · rw [e _ h3, e' _ h3, e _ h4]; exact h.na
  · rw [e _ h4]; exact h.oa
  · rw [e _ h4, e' _ h4]; exact h.oa'
  · rw [e _ h13, e' _ h13, e _ h14]; exact h.nb
  · rw [e _ h14]; exact h.ob
  · rw [e _ h14, e' _ h14]; exact h.ob'
theorem GM.box0 {w w' : World} {v1 v2 : Value} {C : List ByteArray} {O : List Int} {y1 : ByteArray} {y2 : Int} {L : Nat → Bool} {x : Nat → Value} (h : GM w v1 v2 C O y1 y2 L x w') (h16 : L 16 = false) (h18 : L 18 = false) :
    w'.heap[w.heap.size + 1 + 1]? = some (.cells #[v1, v2] 25 (0, 0)) := by
  have := h.box; rw [h16, h18] at this; simpa using this
theorem GM.big {w w' : World} {v1 v2 : Value} {C : List ByteArray} {O : List Int} {y1 : ByteArray} {y2 : Int} {L : Nat → Bool} {x : Nat → Value} (h : GM w v1 v2 C O y1 y2 L x w') : w.heap.size + 1 + 1 + 1 + 1 ≤ w'.heap.size := (Array.getElem?_eq_some_iff.1 h.nam).1
theorem GM.bsA {w w' : World} {v1 v2 : Value} {C : List ByteArray} {O : List Int} {y1 : ByteArray} {y2 : Int} {L : Nat → Bool} {x : Nat → Value} (h : GM w v1 v2 C O y1 y2 L x w') : GM w v1 v2 C O y1 y2 (upd L 3 true) (upd x 3 (.slice (some ⟨w'.heap.size, 0, none⟩) 1 1)) (w'.alloc (.cells #[.string y1] 9)) := by
  have k := (Ext.refl w').alloc (.cells #[.string y1] 9)
  refine ⟨h.ext.trans k, k.heap h.res, k.heap h.nam, k.heap h.box, fun _ _ => ⟨_, rfl, h.big, heap_alloc_new _ _⟩, fun q => (h.oa q).alloc _, fun q => ⟨(h.oa' q).1, (h.oa' q).2.alloc _⟩, fun q q' => ?_, fun q => (h.ob q).alloc _, fun q => ⟨(h.ob' q).1, (h.ob' q).2.alloc _⟩⟩
  obtain ⟨b, q1, q2, q3⟩ := h.nb q q'
  exact ⟨b, q1, q2, k.heap q3⟩
theorem GM.bsB {w w' : World} {v1 v2 : Value} {C : List ByteArray} {O : List Int} {y1 : ByteArray} {y2 : Int} {L : Nat → Bool} {x : Nat → Value} (h : GM w v1 v2 C O y1 y2 L x w') : GM w v1 v2 C O y1 y2 (upd L 13 true) (upd x 13 (.slice (some ⟨w'.heap.size, 0, none⟩) 1 1)) (w'.alloc (.cells #[.int .i64 y2] 3)) := by
  have k := (Ext.refl w').alloc (.cells #[.int .i64 y2] 3)
  refine ⟨h.ext.trans k, k.heap h.res, k.heap h.nam, k.heap h.box, fun q q' => ?_, fun q => (h.oa q).alloc _, fun q => ⟨(h.oa' q).1, (h.oa' q).2.alloc _⟩, fun _ _ => ⟨_, rfl, h.big, heap_alloc_new _ _⟩, fun q => (h.ob q).alloc _, fun q => ⟨(h.ob' q).1, (h.ob' q).2.alloc _⟩⟩
  obtain ⟨b, q1, q2, q3⟩ := h.na q q'
  exact ⟨b, q1, q2, k.heap q3⟩
theorem GM.apA {w w' : World} {v1 v2 : Value} {C : List ByteArray} {O : List Int} {y1 : ByteArray} {y2 : Int} {L : Nat → Bool} {x : Nat → Value} {w1 : World} {v' : Value} (h : GM w v1 v2 C O y1 y2 L x w') (h4 : L 4 = false) (h13 : L 13 = false) (h14 : L 14 = false) (h16 : L 16 = false) (h18 : L 18 = false)
    (ho : w1.ownsRow (w.heap.size + 1 + 1 + 1 + 1) 9 1 v' (C.length + 1) (cS C ++ [.string y1])) (hg : w'.grownBy w1 v1.ownBlock) : GM w v1 v2 C O y1 y2 (upd L 4 true) (upd x 4 v') w1 := by
  have o1 := h.oa h4
  have ge := own_ge o1
  have far : ∀ k, k < w.heap.size + 1 + 1 + 1 + 1 → v1.ownBlock ≠ some k := fun k hk e => by have := ge k e; omega
  refine ⟨h.ext.grown hg (fun k e => by have := ge k e; omega), grown_heap hg h.res (far _ (by omega)), grown_heap hg h.nam (far _ (by omega)), ?_, fun _ q => absurd q (by simp [upd]), fun q => absurd q (by simp [upd]), fun _ => ⟨own_form ho, ho⟩, fun q => absurd q (by simp [upd, h13]), fun _ => grown_own hg (h.ob h14) (own_own_ne (h.ob h14) o1 (by decide)), fun q => absurd q (by simp [upd, h14])⟩
  have b := grown_heap hg (h.box0 h16 h18) (far _ (by omega))
  simpa [upd, h16, h18] using b
theorem GM.apB {w w' : World} {v1 v2 : Value} {C : List ByteArray} {O : List Int} {y1 : ByteArray} {y2 : Int} {L : Nat → Bool} {x : Nat → Value} {w1 : World} {v' : Value} (h : GM w v1 v2 C O y1 y2 L x w') (h4 : L 4 = true) (h14 : L 14 = false) (h16 : L 16 = false) (h18 : L 18 = false)
    (ho : w1.ownsRow w.heap.size 3 1 v' (O.length + 1) (cI O ++ [.int .i64 y2])) (hg : w'.grownBy w1 v2.ownBlock) : GM w v1 v2 C O y1 y2 (upd L 14 true) (upd x 14 v') w1 := by
  have o1 := h.ob h14
  have ge := own_ge o1
  refine ⟨h.ext.grown hg (fun k e => by have := ge k e; omega), grown_heap hg h.res (own_ne o1 h.res (by decide)), grown_heap hg h.nam (own_ne o1 h.nam (by decide)), ?_, fun _ q => absurd q (by simp [upd, h4]), fun q => absurd q (by simp [upd, h4]), fun _ => ⟨(h.oa' h4).1, grown_own hg (h.oa' h4).2 (own_own_ne (h.oa' h4).2 o1 (by decide))⟩, fun _ q => absurd q (by simp [upd]), fun q => absurd q (by simp [upd]), fun _ => ⟨own_form ho, ho⟩⟩
  have b := grown_heap hg (h.box0 h16 h18) (own_ne o1 (h.box0 h16 h18) (by decide))
  simpa [upd, h16, h18] using b
theorem GM.stA {w w' : World} {v1 v2 : Value} {C : List ByteArray} {O : List Int} {y1 : ByteArray} {y2 : Int} {L : Nat → Bool} {x : Nat → Value} (h : GM w v1 v2 C O y1 y2 L x w') (h4 : L 4 = true) (h14 : L 14 = true) (h16 : L 16 = false) (h18 : L 18 = false) (v : Value) :
    GM w v1 v2 C O y1 y2 (upd L 16 true) (upd x 16 v) (w'.setCell ⟨w.heap.size + 1 + 1, 0, none⟩ (x 4)) := by
  have b := h.box0 h16 h18
  refine ⟨h.ext.setCell (by show _ ≤ w.heap.size + 1 + 1; omega) _, heap_set_far h.res (by show _ ≠ w.heap.size + 1 + 1; omega), heap_set_far h.nam (by show _ ≠ w.heap.size + 1 + 1; omega), ?_, fun _ q => absurd q (by simp [upd, h4]), fun q => absurd q (by simp [upd, h4]), fun _ => ⟨(h.oa' h4).1, own_set_other (h.oa' h4).2 (own_ne (h.oa' h4).2 b (by decide)) _⟩, fun _ q => absurd q (by simp [upd, h14]), fun q => absurd q (by simp [upd, h14]), fun _ => ⟨(h.ob' h14).1, own_set_other (h.ob' h14).2 (own_ne (h.ob' h14).2 b (by decide)) _⟩⟩
  simp [upd, h18, World.setCell, Array.getElem?_modify, b]
theorem GM.box1 {w w' : World} {v1 v2 : Value} {C : List ByteArray} {O : List Int} {y1 : ByteArray} {y2 : Int} {L : Nat → Bool} {x : Nat → Value} (h : GM w v1 v2 C O y1 y2 L x w') (h16 : L 16 = true) (h18 : L 18 = false) : w'.heap[w.heap.size + 1 + 1]? = some (.cells #[x 4, v2] 25 (0, 0)) := by
  have := h.box; rw [h16, h18] at this; simpa using this
theorem GM.stB {w w' : World} {v1 v2 : Value} {C : List ByteArray} {O : List Int} {y1 : ByteArray} {y2 : Int} {L : Nat → Bool} {x : Nat → Value} (h : GM w v1 v2 C O y1 y2 L x w') (h4 : L 4 = true) (h14 : L 14 = true) (h16 : L 16 = true) (h18 : L 18 = false) (v : Value) :
    GM w v1 v2 C O y1 y2 (upd L 18 true) (upd x 18 v) (w'.setCell ⟨w.heap.size + 1 + 1, 1, none⟩ (x 14)) := by
  have b := h.box1 h16 h18
  refine ⟨h.ext.setCell (by show _ ≤ w.heap.size + 1 + 1; omega) _, heap_set_far h.res (by show _ ≠ w.heap.size + 1 + 1; omega), heap_set_far h.nam (by show _ ≠ w.heap.size + 1 + 1; omega), ?_, fun _ q => absurd q (by simp [upd, h4]), fun q => absurd q (by simp [upd, h4]), fun _ => ⟨(h.oa' h4).1, own_set_other (h.oa' h4).2 (own_ne (h.oa' h4).2 b (by decide)) _⟩, fun _ q => absurd q (by simp [upd, h14]), fun q => absurd q (by simp [upd, h14]), fun _ => ⟨(h.ob' h14).1, own_set_other (h.ob' h14).2 (own_ne (h.ob' h14).2 b (by decide)) _⟩⟩
  simp [upd, h16, World.setCell, Array.getElem?_modify, b]
theorem takeB_yes {l : List Int} {k : Nat} (hl : k < l.length) (ht : 0 < wi l[k] 3) : takeB l k = true := by simp [takeB, hl, ht]
theorem takeB_no {l : List Int} {k : Nat} (hl : k < l.length) (ht : ¬ 0 < wi l[k] 3) : takeB l k = false := by simp [takeB, hl]; omega
theorem takeB_out {l : List Int} {k : Nat} (hl : ¬ k < l.length) : takeB l k = false := by simp [takeB, hl]
theorem KM_no {w wr : World} {l : List Int} {k : Nat} (h : KM w wr l k) (ht : takeB l k = false) : KM w wr l (k + 1) := by
  have e1 : mkC l (k + 1) = mkC l k := by simp [mkC, ht]
  have e2 : mkO l (k + 1) = mkO l k := by simp [mkO, ht]
  unfold KM; rw [e1, e2]; exact h
theorem KM_yes {w w' : World} {l : List Int} {k : Nat} (hl : k < l.length) (hk : k < nmL.length) (ht : takeB l k = true) {v1 v2 : Value} {L : Nat → Bool} {x : Nat → Value}
    (h : GM w v1 v2 (mkC l k) (mkO l k) nmL[k] (wi (l[k].tdiv 3) 4) L x w') (h4 : L 4 = true) (h14 : L 14 = true) (h16 : L 16 = true) (h18 : L 18 = true) : KM w w' l (k + 1) := by
  have e1 : mkC l (k + 1) = mkC l k ++ [nmL[k]] := by simp [mkC, ht, kAt_eq hk]
  have e2 : mkO l (k + 1) = mkO l k ++ [wi (l[k].tdiv 3) 4] := by simp [mkO, ht, hl]
  obtain ⟨⟨a4, c4, e4⟩, o4⟩ := h.oa' h4
  obtain ⟨⟨a14, c14, e14⟩, o14⟩ := h.ob' h14
  have b := h.box
  rw [h16, h18, if_pos rfl, if_pos rfl, e4, e14] at b
  rw [e4] at o4; rw [e14] at o14
  unfold KM
  rw [e1, e2, List.length_append, List.length_append]
  exact ⟨a4, c4, a14, c14, b, by simpa [cS] using o4, by simpa [cI] using o14, h.res, h.nam, h.ext⟩
end Go.Proofs.YtimchedebcoohaaGreatDoor
