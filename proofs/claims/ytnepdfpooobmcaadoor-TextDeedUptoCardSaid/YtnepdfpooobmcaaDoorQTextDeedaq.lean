/- Contracts and lemmas for the proof of TextDeed; each theorem states its own conditions. -/
import Derived.Test.YtnepdfpooobmcaaDoorQTextDeedao
import Derived.Test.YtnepdfpooobmcaaDoorQTextDeedap
import Derived.Deep.Cut
import Derived.Test.YtnepdfpooobmcaaDoorQTextDeedae
import Derived.Deep.CutBlock
set_option linter.unusedVariables false
set_option linter.unusedSimpArgs false
/- Contracts and lemmas for the proofs of this seat; each theorem states its own conditions. -/
namespace Go.Proofs.YtnepdfpooobmcaaDoor
open Go.RowKit
end Go.Proofs.YtnepdfpooobmcaaDoor

/- Contracts and lemmas for the proofs of this seat; each theorem states its own conditions. -/
namespace Go.Proofs.YtnepdfpooobmcaaDoor
open Go.RowKit
end Go.Proofs.YtnepdfpooobmcaaDoor
