/- Contracts and lemmas for the proof of TextMap; each theorem states its own conditions. -/
import Derived.Test.YtnepdfpooobmcaaDoorQTextMapbg
import Derived.Test.YtnepdfpooobmcaaDoorQTextMapbt
import Derived.Test.YtnepdfpooobmcaaDoorQTextMapbk
import Derived.WalkSpells
import Derived.WalkLawsBesides
set_option linter.unusedVariables false
set_option linter.unusedSimpArgs false
/- Contracts and lemmas for the proofs of this seat; each theorem states its own conditions. -/
namespace Go.Proofs.YtnepdfpooobmcaaDoor
open Go.RowKit
/-! deed.op, deed.Check -/
end Go.Proofs.YtnepdfpooobmcaaDoor
