/- Contracts and lemmas for the proof of ShardFind; each theorem states its own conditions. -/
import Derived.Test.YtnepdfpooobmcaaDoorQShardFindbf
import Derived.Test.YtnepdfpooobmcaaDoorQShardFindbq
import Derived.Test.YtnepdfpooobmcaaDoorQShardFindal
import Derived.Test.YtnepdfpooobmcaaDoorQShardFindbo
set_option linter.unusedVariables false
set_option linter.unusedSimpArgs false
/- Contracts and lemmas for the proofs of this seat; each theorem states its own conditions. -/
namespace Go.Proofs.YtnepdfpooobmcaaDoor
open Go.RowKit
/-! rokeep.run, deedBegun, deed.Serial -/
/-- deeds, in a row -/
def SegDs (w : World) (v : Value) (D : List Ops) : Prop :=
  ∃ vs : List Value, vs.length = D.length ∧ Seg w v 1 vs.length vs ∧ ∀ (i : Nat) (u : Value) (d : Ops), vs[i]? = some u → D[i]? = some d → Seg w u 4 d.length (cO d)
theorem SegDs.ext {w w' : World} {v : Value} {D : List Ops} (h : SegDs w v D) (k : Ext w w') : SegDs w' v D := by
  obtain ⟨vs, h1, h2, h3⟩ := h
  exact ⟨vs, h1, h2.ext k, fun i u d a b => (h3 i u d a b).ext k⟩
end Go.Proofs.YtnepdfpooobmcaaDoor
