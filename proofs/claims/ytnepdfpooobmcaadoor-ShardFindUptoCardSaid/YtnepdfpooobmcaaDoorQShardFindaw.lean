/- Contracts and lemmas for the proof of ShardFind; each theorem states its own conditions. -/
import Derived.Test.YtnepdfpooobmcaaDoorQShardFindav
import Derived.Test.YtnepdfpooobmcaaDoorQShardFindae
set_option linter.unusedVariables false
set_option linter.unusedSimpArgs false
/- Contracts and lemmas for the proofs of this seat; each theorem states its own conditions. -/
namespace Go.Proofs.YtnepdfpooobmcaaDoor
open Go.RowKit
/-! text.Map, text.ReadMap -/
theorem toL_len (s : ByteArray) : s.data.toList.length = s.size := by simp [← ByteArray.size_data]
end Go.Proofs.YtnepdfpooobmcaaDoor

/- Contracts and lemmas for the proofs of this seat; each theorem states its own conditions. -/
namespace Go.Proofs.YtnepdfpooobmcaaDoor
/-! stores, in plain lists -/
/-! P4 -/
end Go.Proofs.YtnepdfpooobmcaaDoor
