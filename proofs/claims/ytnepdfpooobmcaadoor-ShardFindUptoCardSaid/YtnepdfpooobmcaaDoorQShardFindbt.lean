/- Contracts and lemmas for the proof of ShardFind; each theorem states its own conditions. -/
import Derived.Shelf.Strings.SlTrimAscii
import Derived.Ground.NamesProg
import Derived.Test.YtnepdfpooobmcaaDoorProg
import Derived.Test.YtnepdfpooobmcaaDoorQShardFindaa
import Derived.Test.YtnepdfpooobmcaaDoorQShardFindbk
import Derived.Test.YtnepdfpooobmcaaDoorQShardFindad
import Derived.Test.YtnepdfpooobmcaaDoorQShardFindaj
import Derived.Lib.SlTrimSet
set_option linter.unusedVariables false
set_option linter.unusedSimpArgs false
/- Contracts and lemmas for the proofs of this seat; each theorem states its own conditions. -/
namespace Go.Proofs.YtnepdfpooobmcaaDoor
open Go.Shelf
end Go.Proofs.YtnepdfpooobmcaaDoor

/- Contracts and lemmas for the proofs of this seat; each theorem states its own conditions. -/
namespace Go.Proofs.YtnepdfpooobmcaaDoor
open Go.RowKit
end Go.Proofs.YtnepdfpooobmcaaDoor

/- Contracts and lemmas for the proofs of this seat; each theorem states its own conditions. -/
namespace Go.Proofs.YtnepdfpooobmcaaDoor
open Go.RowKit
/-! the document's Key, Map, Whose -/
end Go.Proofs.YtnepdfpooobmcaaDoor
