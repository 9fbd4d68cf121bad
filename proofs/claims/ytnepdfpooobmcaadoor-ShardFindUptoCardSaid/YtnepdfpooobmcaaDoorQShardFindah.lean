/- Contracts and lemmas for the proof of ShardFind; each theorem states its own conditions. -/
import Derived.Test.YtnepdfpooobmcaaDoorQShardFindaf
import Derived.Test.YtnepdfpooobmcaaDoorQShardFindag
import Derived.Deep.RegionHeld3
set_option linter.unusedVariables false
set_option linter.unusedSimpArgs false
/- Contracts and lemmas for the proofs of this seat; each theorem states its own conditions. -/
namespace Go.Proofs.YtnepdfpooobmcaaDoor
open Go.RowKit
/-- v is a map with these cuts and owners -/
def IsMap (w : World) (v : Value) (cuts : List ByteArray) (owners : List Int) : Prop :=
  ∃ c o, v = .agg #[c, o] ∧ Seg w c 1 cuts.length (cS cuts) ∧ Seg w o 1 owners.length (cI owners)
theorem IsMap.ext {w w' : World} {v : Value} {cuts : List ByteArray} {owners : List Int} (h : IsMap w v cuts owners) (k : Ext w w') : IsMap w' v cuts owners := by
  obtain ⟨c, o, h1, h2, h3⟩ := h
  exact ⟨c, o, h1, h2.ext k, h3.ext k⟩
/-- a map of the call's own -/
def OwnMap (w : World) (B : Nat) (v : Value) (cuts : List ByteArray) (owners : List Int) : Prop :=
  ∃ c o, v = .agg #[c, o] ∧ w.ownsRow B 9 1 c cuts.length (cS cuts) ∧ w.ownsRow B 3 1 o owners.length (cI owners)
theorem OwnMap.is {w : World} {B : Nat} {v : Value} {cuts : List ByteArray} {owners : List Int} (h : OwnMap w B v cuts owners) : IsMap w v cuts owners := by
  obtain ⟨c, o, h1, h2, h3⟩ := h
  exact ⟨c, o, h1, own_seg h2, own_seg h3⟩
end Go.Proofs.YtnepdfpooobmcaaDoor
