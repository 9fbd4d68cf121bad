/- Contracts and lemmas for the proof of TextDeed; each theorem states its own conditions. -/
import Derived.Test.YtnepdfpooobmcaaDoorQTextDeedba
import Derived.Test.YtnepdfpooobmcaaDoorQTextDeedbb
import Derived.Test.YtnepdfpooobmcaaDoorQTextDeedaf
import Derived.Test.YtnepdfpooobmcaaDoorQTextDeedam
set_option linter.unusedVariables false
set_option linter.unusedSimpArgs false
/- Contracts and lemmas for the proofs of this seat; each theorem states its own conditions. -/
namespace Go.Proofs.YtnepdfpooobmcaaDoor
open Go.RowKit
end Go.Proofs.YtnepdfpooobmcaaDoor
