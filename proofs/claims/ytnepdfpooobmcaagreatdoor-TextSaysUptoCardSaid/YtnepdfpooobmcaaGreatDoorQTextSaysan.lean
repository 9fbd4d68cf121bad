/- Contracts and lemmas for the proof of TextSays; each theorem states its own conditions. -/
import Derived.Test.YtnepdfpooobmcaaGreatDoorQTextSaysal
import Derived.Test.YtnepdfpooobmcaaGreatDoorQTextSaysam
import Derived.Deep.Cut
import Derived.Test.YtnepdfpooobmcaaGreatDoorQTextSaysaf
import Derived.Deep.CutBlock
set_option linter.unusedVariables false
set_option linter.unusedSimpArgs false
/- Contracts and lemmas for the proofs of this seat; each theorem states its own conditions. -/
namespace Go.Proofs.YtnepdfpooobmcaaGreatDoor
open Go.RowKit
def sameB (c c' : List ByteArray) (o o' : List Int) : Bool := decide (c = c') && decide (o = o')
set_option maxRecDepth 10000 in
theorem sameMap_any (v u : Value) (c c' : List ByteArray) (o o' : List Int) (w : World) (hv : IsMap w v c o) (hu : IsMap w u c' o') :
    Calls Tryz.prog 11 #[v, u] w fun e w' => e = .returned (.bool (sameB c c' o o')) ∧ Ext w w' := by
  obtain ⟨c1, o1, rfl, h1, h2⟩ := hv
  obtain ⟨c2, o2, rfl, h3, h4⟩ := hu
  by_cases g1 : c = c'
  · have q : decide (c = c') = true := by simp [g1]
    have e1 : sameB c c' o o' = decide (o = o') := by simp [sameB, g1]
    have E1 := (show Hid (sameB c c' o o' = decide (o = o')) from e1)
    clear e1 g1
    go_enter Tryz.func11, Tryz.ntmps11
    go_wp2_with fail
    refine (equal_Str c1 c2 c c' _ (h1.ext (by (repeat (first | (with_reducible assumption) | (with_reducible exact Ext.refl _) | (with_reducible refine Ext.drew ?_) | (with_reducible refine Ext.drewN ?_ _) | (with_reducible refine Ext.alloc ?_ _) | (with_reducible refine Ext.trans ?_ (by with_reducible assumption)))))) (h3.ext (by (repeat (first | (with_reducible assumption) | (with_reducible exact Ext.refl _) | (with_reducible refine Ext.drew ?_) | (with_reducible refine Ext.drewN ?_ _) | (with_reducible refine Ext.alloc ?_ _) | (with_reducible refine Ext.trans ?_ (by with_reducible assumption))))))).mono ?_
    rintro e w1 ⟨rfl, d, rfl⟩
    go_wp2_with fail
    refine (equal_Int o1 o2 o o' _ (h2.ext (by (repeat (first | (with_reducible assumption) | (with_reducible exact Ext.refl _) | (with_reducible refine Ext.drew ?_) | (with_reducible refine Ext.drewN ?_ _) | (with_reducible refine Ext.alloc ?_ _) | (with_reducible refine Ext.trans ?_ (by with_reducible assumption)))))) (h4.ext (by (repeat (first | (with_reducible assumption) | (with_reducible exact Ext.refl _) | (with_reducible refine Ext.drew ?_) | (with_reducible refine Ext.drewN ?_ _) | (with_reducible refine Ext.alloc ?_ _) | (with_reducible refine Ext.trans ?_ (by with_reducible assumption))))))).mono ?_
    rintro e w2 ⟨rfl, d', rfl⟩
    go_wp2
    go_ret
    exact ⟨rB E1.out.symm, by (repeat (first | (with_reducible assumption) | (with_reducible exact Ext.refl _) | (with_reducible refine Ext.drew ?_) | (with_reducible refine Ext.drewN ?_ _) | (with_reducible refine Ext.alloc ?_ _) | (with_reducible refine Ext.trans ?_ (by with_reducible assumption))))⟩
  · have q : decide (c = c') = false := by simp [g1]
    have e1 : sameB c c' o o' = false := by simp [sameB, g1]
    have E1 := (show Hid (sameB c c' o o' = false) from e1)
    clear e1 g1
    go_enter Tryz.func11, Tryz.ntmps11
    go_wp2_with fail
    refine (equal_Str c1 c2 c c' _ (h1.ext (by (repeat (first | (with_reducible assumption) | (with_reducible exact Ext.refl _) | (with_reducible refine Ext.drew ?_) | (with_reducible refine Ext.drewN ?_ _) | (with_reducible refine Ext.alloc ?_ _) | (with_reducible refine Ext.trans ?_ (by with_reducible assumption)))))) (h3.ext (by (repeat (first | (with_reducible assumption) | (with_reducible exact Ext.refl _) | (with_reducible refine Ext.drew ?_) | (with_reducible refine Ext.drewN ?_ _) | (with_reducible refine Ext.alloc ?_ _) | (with_reducible refine Ext.trans ?_ (by with_reducible assumption))))))).mono ?_
    rintro e w1 ⟨rfl, d, rfl⟩
    go_wp2
    go_ret
    exact ⟨rB E1.out.symm, by (repeat (first | (with_reducible assumption) | (with_reducible exact Ext.refl _) | (with_reducible refine Ext.drew ?_) | (with_reducible refine Ext.drewN ?_ _) | (with_reducible refine Ext.alloc ?_ _) | (with_reducible refine Ext.trans ?_ (by with_reducible assumption))))⟩
end Go.Proofs.YtnepdfpooobmcaaGreatDoor

/- Contracts and lemmas for the proofs of this seat; each theorem states its own conditions. -/
namespace Go.Proofs.YtnepdfpooobmcaaGreatDoor
open Go.RowKit
end Go.Proofs.YtnepdfpooobmcaaGreatDoor

/- Contracts and lemmas for the proofs of this seat; each theorem states its own conditions. -/
namespace Go.Proofs.YtnepdfpooobmcaaGreatDoor
theorem mem_range_of {O : List Int} (h : allTo (ownOk O) O.length) : ∀ n ∈ O, 0 ≤ n ∧ n < 4 := by
  intro n hn
  obtain ⟨i, hi, rfl⟩ := List.mem_iff_getElem.1 hn
  have := h i hi
  simp [ownOk, hi] at this
  omega
theorem OwnMap.unpack {w : World} {B : Nat} {v : Value} {cuts : List ByteArray} {owners : List Int} (h : OwnMap w B v cuts owners) :
    ∃ a k a' k', v = .agg #[.slice a cuts.length k, .slice a' owners.length k'] ∧ IsMap w (.agg #[.slice a cuts.length k, .slice a' owners.length k']) cuts owners := by
  have h' := h.is
  obtain ⟨a, k, a', k', rfl, _⟩ := h'.unpack
  exact ⟨a, k, a', k', rfl, h'⟩
end Go.Proofs.YtnepdfpooobmcaaGreatDoor

/- Contracts and lemmas for the proofs of this seat; each theorem states its own conditions. -/
namespace Go.Proofs.YtnepdfpooobmcaaGreatDoor
/-! Plain, in plain lists -/
theorem cut_key {C : List ByteArray} (h : allTo (cutOk C) C.length) : ∀ x ∈ C, keyB x = true := by
  intro x hx
  obtain ⟨i, hi, rfl⟩ := List.mem_iff_getElem.1 hx
  have := h i hi
  simp [cutOk, kAt_eq hi] at this
  exact this.1
end Go.Proofs.YtnepdfpooobmcaaGreatDoor
