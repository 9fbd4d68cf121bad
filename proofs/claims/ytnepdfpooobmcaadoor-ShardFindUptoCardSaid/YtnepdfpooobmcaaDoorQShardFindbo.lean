/- Contracts and lemmas for the proof of ShardFind; each theorem states its own conditions. -/
import Derived.Test.YtnepdfpooobmcaaDoorQShardFindbk
import Derived.Test.YtnepdfpooobmcaaDoorQShardFindba
import Derived.Test.YtnepdfpooobmcaaDoorQShardFindbn
import Derived.Shelf.Abstract
import Derived.Test.YtnepdfpooobmcaaDoorQShardFindbl
set_option linter.unusedVariables false
set_option linter.unusedSimpArgs false
/- Contracts and lemmas for the proofs of this seat; each theorem states its own conditions. -/
namespace Go.Proofs.YtnepdfpooobmcaaDoor
open Go.RowKit
/-! slices.IndexFunc, ContainsFunc, DeleteFunc at pairs -/

end Go.Proofs.YtnepdfpooobmcaaDoor

/- Contracts and lemmas for the proofs of this seat; each theorem states its own conditions. -/
namespace Go.Proofs.YtnepdfpooobmcaaDoor
open Go.RowKit
/-! plain laws of Join, Scan, Total -/
theorem keyB_size {k : ByteArray} (h : keyB k = true) : k.size ≤ 6 := by
  simp [keyB] at h; exact h.1.2
end Go.Proofs.YtnepdfpooobmcaaDoor
