/- Contracts and lemmas for the proof of TextLog; each theorem states its own conditions. -/
import Derived.Test.YtnepdfpooobmcaaDoorQTextLogak
import Derived.Test.YtnepdfpooobmcaaDoorQTextLogal
import Derived.Deep.Cut
set_option linter.unusedVariables false
set_option linter.unusedSimpArgs false
/- Contracts and lemmas for the proofs of this seat; each theorem states its own conditions. -/
namespace Go.Proofs.YtnepdfpooobmcaaDoor
open Go.RowKit
def sameB (c c' : List ByteArray) (o o' : List Int) : Bool := decide (c = c') && decide (o = o')
set_option maxRecDepth 10000 in
theorem sameMap_any (v u : Value) (c c' : List ByteArray) (o o' : List Int) (w : World) (hv : IsMap w v c o) (hu : IsMap w u c' o') :
    Calls Tryd.prog 11 #[v, u] w fun e w' => e = .returned (.bool (sameB c c' o o')) ∧ Ext w w' := by
  obtain ⟨c1, o1, rfl, h1, h2⟩ := hv
  obtain ⟨c2, o2, rfl, h3, h4⟩ := hu
  by_cases g1 : c = c'
  · have q : decide (c = c') = true := by simp [g1]
    have e1 : sameB c c' o o' = decide (o = o') := by simp [sameB, g1]
    have E1 := (show Hid (sameB c c' o o' = decide (o = o')) from e1)
    clear e1 g1
    go_enter Tryd.func11, Tryd.ntmps11
    go_wp2_with fail
    refine (equal_Str c1 c2 c c' _ (h1.ext (by (repeat (first | (with_reducible assumption) | (with_reducible exact Ext.refl _) | (with_reducible refine Ext.drew ?_) | (with_reducible refine Ext.drewN ?_ _) | (with_reducible refine Ext.alloc ?_ _) | (with_reducible refine Ext.trans ?_ (by with_reducible assumption)))))) (h3.ext (by (repeat (first | (with_reducible assumption) | (with_reducible exact Ext.refl _) | (with_reducible refine Ext.drew ?_) | (with_reducible refine Ext.drewN ?_ _) | (with_reducible refine Ext.alloc ?_ _) | (with_reducible refine Ext.trans ?_ (by with_reducible assumption))))))).mono ?_
    rintro e w1 ⟨rfl, d, rfl⟩
    go_wp2_with fail
    refine (equal_Int o1 o2 o o' _ (h2.ext (by (repeat (first | (with_reducible assumption) | (with_reducible exact Ext.refl _) | (with_reducible refine Ext.drew ?_) | (with_reducible refine Ext.drewN ?_ _) | (with_reducible refine Ext.alloc ?_ _) | (with_reducible refine Ext.trans ?_ (by with_reducible assumption)))))) (h4.ext (by (repeat (first | (with_reducible assumption) | (with_reducible exact Ext.refl _) | (with_reducible refine Ext.drew ?_) | (with_reducible refine Ext.drewN ?_ _) | (with_reducible refine Ext.alloc ?_ _) | (with_reducible refine Ext.trans ?_ (by with_reducible assumption))))))).mono ?_
    rintro e w2 ⟨rfl, d', rfl⟩
    go_wp2
    go_ret
    exact ⟨rB E1.out.symm, by (repeat (first | (with_reducible assumption) | (with_reducible exact Ext.refl _) | (with_reducible refine Ext.drew ?_) | (with_reducible refine Ext.drewN ?_ _) | (with_reducible refine Ext.alloc ?_ _) | (with_reducible refine Ext.trans ?_ (by with_reducible assumption))))⟩
  · have q : decide (c = c') = false := by simp [g1]
    have e1 : sameB c c' o o' = false := by simp [sameB, g1]
    have E1 := (show Hid (sameB c c' o o' = false) from e1)
    clear e1 g1
    go_enter Tryd.func11, Tryd.ntmps11
    go_wp2_with fail
    refine (equal_Str c1 c2 c c' _ (h1.ext (by (repeat (first | (with_reducible assumption) | (with_reducible exact Ext.refl _) | (with_reducible refine Ext.drew ?_) | (with_reducible refine Ext.drewN ?_ _) | (with_reducible refine Ext.alloc ?_ _) | (with_reducible refine Ext.trans ?_ (by with_reducible assumption)))))) (h3.ext (by (repeat (first | (with_reducible assumption) | (with_reducible exact Ext.refl _) | (with_reducible refine Ext.drew ?_) | (with_reducible refine Ext.drewN ?_ _) | (with_reducible refine Ext.alloc ?_ _) | (with_reducible refine Ext.trans ?_ (by with_reducible assumption))))))).mono ?_
    rintro e w1 ⟨rfl, d, rfl⟩
    go_wp2
    go_ret
    exact ⟨rB E1.out.symm, by (repeat (first | (with_reducible assumption) | (with_reducible exact Ext.refl _) | (with_reducible refine Ext.drew ?_) | (with_reducible refine Ext.drewN ?_ _) | (with_reducible refine Ext.alloc ?_ _) | (with_reducible refine Ext.trans ?_ (by with_reducible assumption))))⟩
end Go.Proofs.YtnepdfpooobmcaaDoor
