/- Contracts and lemmas for the proof of ShardFind; each theorem states its own conditions. -/
import Derived.Test.YtnepdfpooobmcaaDoorQShardFindao
import Derived.Test.YtnepdfpooobmcaaDoorQShardFindac
set_option linter.unusedVariables false
set_option linter.unusedSimpArgs false
/- Contracts and lemmas for the proofs of this seat; each theorem states its own conditions. -/
namespace Go.Proofs.YtnepdfpooobmcaaDoor
/-! Plain, in plain lists -/
end Go.Proofs.YtnepdfpooobmcaaDoor

/- Contracts and lemmas for the proofs of this seat; each theorem states its own conditions. -/
namespace Go.Proofs.YtnepdfpooobmcaaDoor
open Go.Lib
/-! maps as text, in plain lists -/
end Go.Proofs.YtnepdfpooobmcaaDoor
