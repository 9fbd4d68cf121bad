/- Contracts and lemmas for the proof of TextMap; each theorem states its own conditions. -/
import Derived.Test.YtnepdfpooobmcaaDoorQTextMapbc
import Derived.Test.YtnepdfpooobmcaaDoorQTextMapbe
import Derived.Test.YtnepdfpooobmcaaDoorQTextMapbg
import Derived.Test.YtnepdfpooobmcaaDoorQTextMapbp
import Derived.Test.YtnepdfpooobmcaaDoorQTextMapbq
import Derived.WalkLawsBesides
import Derived.Carry
set_option linter.unusedVariables false
set_option linter.unusedSimpArgs false
/- Contracts and lemmas for the proofs of this seat; each theorem states its own conditions. -/
namespace Go.Proofs.YtnepdfpooobmcaaDoor
open Go.RowKit Go.Maps
/-! the document's Value, Store, Of -/
end Go.Proofs.YtnepdfpooobmcaaDoor
