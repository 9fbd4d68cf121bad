/- Contracts and lemmas for the proof of ShardFind; each theorem states its own conditions. -/
import Derived.Test.YtnepdfpooobmcaaDoorQShardFindab
import Derived.Laws.CopyRow
import Derived.Laws.CopyOwn
import Derived.Laws.IdiomCopy
import Derived.Lib.SliceRun
import Derived.Lib.AppendZeros
import Derived.Lib.AppendZerosOnto
import Derived.Shelf.Spec.SlicesInsert
set_option linter.unusedVariables false
set_option linter.unusedSimpArgs false
/- Contracts and lemmas for the proofs of this seat; each theorem states its own conditions. -/
namespace Go.Proofs.YtnepdfpooobmcaaDoor
open Go.RowKit
/-! a row of one's own, told to the cell: built-in copy, append and clear at elements of however many cells -/
def RowB (w : World) (g : Nat) (e : TypeId) (cur : List Value) : Prop := w.heap[g]? = some (.cells cur.toArray e (0, 0))
theorem RowB.cell {w : World} {g : Nat} {e : TypeId} {cur : List Value} (h : RowB w g e cur) {j : Nat} {u : Value} (hu : cur[j]? = some u) : w.cell? ⟨g, j, none⟩ = some u := by
  unfold RowB at h; simp [World.cell?, h, hu]
theorem RowB.drew {w : World} {g : Nat} {e : TypeId} {cur : List Value} (h : RowB w g e cur) : RowB w.drew g e cur := h
end Go.Proofs.YtnepdfpooobmcaaDoor
