/- Contracts and lemmas for the proof of ShardFind; each theorem states its own conditions. -/
import Derived.Test.YtnepdfpooobmcaaDoorQShardFindbb
import Derived.Test.YtnepdfpooobmcaaDoorQShardFinday
import Derived.Test.YtnepdfpooobmcaaDoorQShardFindaw
import Derived.Test.YtnepdfpooobmcaaDoorQShardFindax
import Derived.Test.YtnepdfpooobmcaaDoorQShardFindas
set_option linter.unusedVariables false
set_option linter.unusedSimpArgs false
/- Contracts and lemmas for the proofs of this seat; each theorem states its own conditions. -/
namespace Go.Proofs.YtnepdfpooobmcaaDoor
open Go.RowKit
end Go.Proofs.YtnepdfpooobmcaaDoor

/- Contracts and lemmas for the proofs of this seat; each theorem states its own conditions. -/
namespace Go.Proofs.YtnepdfpooobmcaaDoor
open Go.RowKit
/-! deed.do, deed.Run -/
end Go.Proofs.YtnepdfpooobmcaaDoor

/- Contracts and lemmas for the proofs of this seat; each theorem states its own conditions. -/
namespace Go.Proofs.YtnepdfpooobmcaaDoor
open Go.RowKit
/-! text.op, text.Deed -/
end Go.Proofs.YtnepdfpooobmcaaDoor
