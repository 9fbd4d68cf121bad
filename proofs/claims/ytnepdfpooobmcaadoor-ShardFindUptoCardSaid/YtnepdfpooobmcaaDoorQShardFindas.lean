/- Contracts and lemmas for the proof of ShardFind; each theorem states its own conditions. -/
import Derived.Shelf.Strings.Cut
import Derived.Shelf.Strings.IndexAnyAll
import Derived.Shelf.Strings.OnBuilder
import Derived.Test.YtnepdfpooobmcaaDoorProg
import Derived.Test.YtnepdfpooobmcaaDoorQShardFindaa
import Derived.Shelf.Small.Strs
import Derived.Shelf.Strings.LastIndex
import Derived.Shelf.Small.Wraps
import Derived.Shelf.Small.Utf8
import Derived.Shelf.Strings.Runes
set_option linter.unusedVariables false
set_option linter.unusedSimpArgs false
/- Contracts and lemmas for the proofs of this seat; each theorem states its own conditions. -/
namespace Go.Proofs.YtnepdfpooobmcaaDoor
open Go.Shelf
end Go.Proofs.YtnepdfpooobmcaaDoor

/- Contracts and lemmas for the proofs of this seat; each theorem states its own conditions. -/
namespace Go.Proofs.YtnepdfpooobmcaaDoor
open Go.Shelf
end Go.Proofs.YtnepdfpooobmcaaDoor

/- Contracts and lemmas for the proofs of this seat; each theorem states its own conditions. -/
namespace Go.Proofs.YtnepdfpooobmcaaDoor
open Go.Shelf
end Go.Proofs.YtnepdfpooobmcaaDoor
