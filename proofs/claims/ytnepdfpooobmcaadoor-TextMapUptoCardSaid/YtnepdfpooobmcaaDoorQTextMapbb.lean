/- Contracts and lemmas for the proof of TextMap; each theorem states its own conditions. -/
import Derived.Test.YtnepdfpooobmcaaDoorQTextMapay
import Derived.Test.YtnepdfpooobmcaaDoorQTextMapae
import Derived.Test.YtnepdfpooobmcaaDoorQTextMapba
import Derived.Test.YtnepdfpooobmcaaDoorQTextMapak
import Derived.Lib.SlTrimSet
set_option linter.unusedVariables false
set_option linter.unusedSimpArgs false
/- Contracts and lemmas for the proofs of this seat; each theorem states its own conditions. -/
namespace Go.Proofs.YtnepdfpooobmcaaDoor
open Go.RowKit
/-! the document's Key, Map, Whose -/
end Go.Proofs.YtnepdfpooobmcaaDoor
