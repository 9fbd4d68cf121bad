/- Contracts and lemmas for the proof of ShardFind; each theorem states its own conditions. -/
import Derived.Test.YtnepdfpooobmcaaDoorQShardFindbo
import Derived.Test.YtnepdfpooobmcaaDoorQShardFindat
import Derived.Test.YtnepdfpooobmcaaDoorQShardFindak
import Derived.Test.YtnepdfpooobmcaaDoorQShardFindao
import Derived.Test.YtnepdfpooobmcaaDoorQShardFinday
import Derived.Test.YtnepdfpooobmcaaDoorQShardFindag
set_option linter.unusedVariables false
set_option linter.unusedSimpArgs false
/- Contracts and lemmas for the proofs of this seat; each theorem states its own conditions. -/
namespace Go.Proofs.YtnepdfpooobmcaaDoor
open Go.RowKit
/-! shard.Part -/
end Go.Proofs.YtnepdfpooobmcaaDoor
