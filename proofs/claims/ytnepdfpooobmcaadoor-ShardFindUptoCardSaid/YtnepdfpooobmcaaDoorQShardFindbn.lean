/- Contracts and lemmas for the proof of ShardFind; each theorem states its own conditions. -/
import Derived.Test.YtnepdfpooobmcaaDoorQShardFindbl
import Derived.Test.YtnepdfpooobmcaaDoorQShardFindbm
import Derived.Test.YtnepdfpooobmcaaDoorQShardFindba
import Derived.Test.YtnepdfpooobmcaaDoorQShardFindat
import Derived.OneCell
import Derived.Test.YtnepdfpooobmcaaDoorQShardFindbk
set_option linter.unusedVariables false
set_option linter.unusedSimpArgs false
/- Contracts and lemmas for the proofs of this seat; each theorem states its own conditions. -/
namespace Go.Proofs.YtnepdfpooobmcaaDoor
open Go.RowKit Go.Shelf Go.Lib Go.Sort
/-! sort.Slice at pairs -/
end Go.Proofs.YtnepdfpooobmcaaDoor

/- Contracts and lemmas for the proofs of this seat; each theorem states its own conditions. -/
namespace Go.Proofs.YtnepdfpooobmcaaDoor
open Go.RowKit Go.Maps
/-! roref.List -/
end Go.Proofs.YtnepdfpooobmcaaDoor

/- Contracts and lemmas for the proofs of this seat; each theorem states its own conditions. -/
namespace Go.Proofs.YtnepdfpooobmcaaDoor
open Go.RowKit
/-! what slices.DeleteFunc's walk leans on -/
end Go.Proofs.YtnepdfpooobmcaaDoor
