/- Contracts and lemmas for the proof of ShardFind; each theorem states its own conditions. -/
import Derived.Test.YtnepdfpooobmcaaDoorQShardFindab
import Derived.Lib.AtoiAll
import Derived.Lib.ItoaLen
import Derived.Lib.SplitLaws
set_option linter.unusedVariables false
set_option linter.unusedSimpArgs false
/- Contracts and lemmas for the proofs of this seat; each theorem states its own conditions. -/
namespace Go.Proofs.YtnepdfpooobmcaaDoor
open Go.Lib
/-! plain laws of numerals and pieces of text -/
/-! pieces -/
end Go.Proofs.YtnepdfpooobmcaaDoor
