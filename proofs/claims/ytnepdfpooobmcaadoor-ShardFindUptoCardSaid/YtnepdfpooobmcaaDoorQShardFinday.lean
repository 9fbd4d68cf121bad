/- Contracts and lemmas for the proof of ShardFind; each theorem states its own conditions. -/
import Derived.Test.YtnepdfpooobmcaaDoorQShardFindad
import Derived.Test.YtnepdfpooobmcaaDoorQShardFindaw
import Derived.Deep.QuietTactic
import Derived.BigQuiet
import Derived.Test.YtnepdfpooobmcaaDoorQShardFindax
import Derived.Test.YtnepdfpooobmcaaDoorQShardFindat
import Derived.WalkSpells
import Derived.WalkLawsBesides
set_option linter.unusedVariables false
set_option linter.unusedSimpArgs false
/- Contracts and lemmas for the proofs of this seat; each theorem states its own conditions. -/
namespace Go.Proofs.YtnepdfpooobmcaaDoor
open Go.RowKit
end Go.Proofs.YtnepdfpooobmcaaDoor

/- Contracts and lemmas for the proofs of this seat; each theorem states its own conditions. -/
namespace Go.Proofs.YtnepdfpooobmcaaDoor
open Go.RowKit
/-! deed.op, deed.Check -/
end Go.Proofs.YtnepdfpooobmcaaDoor
