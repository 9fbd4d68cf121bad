/- Contracts and lemmas for the proof of TextDeed; each theorem states its own conditions. -/
import Derived.Test.YtnepdfpooobmcaaDoorQTextDeedbr
import Derived.Test.YtnepdfpooobmcaaDoorQTextDeedbt
import Derived.Test.YtnepdfpooobmcaaDoorQTextDeeday
import Derived.Test.YtnepdfpooobmcaaDoorQTextDeedbu
import Derived.WalkLawsBesides
import Derived.Carry
set_option linter.unusedVariables false
set_option linter.unusedSimpArgs false
/- Contracts and lemmas for the proofs of this seat; each theorem states its own conditions. -/
namespace Go.Proofs.YtnepdfpooobmcaaDoor
open Go.RowKit Go.Maps
/-! the document's Value, Store, Of -/
end Go.Proofs.YtnepdfpooobmcaaDoor
