/- Contracts and lemmas for the proof of ShardFind; each theorem states its own conditions. -/
import Derived.Test.YtnepdfpooobmcaaDoorQShardFindbt
import Derived.Test.YtnepdfpooobmcaaDoorQShardFindbm
import Derived.Test.YtnepdfpooobmcaaDoorQShardFinday
import Derived.Test.YtnepdfpooobmcaaDoorQShardFindbn
import Derived.Test.YtnepdfpooobmcaaDoorQShardFindbo
import Derived.WalkLawsBesides
import Derived.Carry
set_option linter.unusedVariables false
set_option linter.unusedSimpArgs false
/- Contracts and lemmas for the proofs of this seat; each theorem states its own conditions. -/
namespace Go.Proofs.YtnepdfpooobmcaaDoor
open Go.RowKit
end Go.Proofs.YtnepdfpooobmcaaDoor

/- Contracts and lemmas for the proofs of this seat; each theorem states its own conditions. -/
namespace Go.Proofs.YtnepdfpooobmcaaDoor
open Go.RowKit Go.Maps
/-! maps of texts to numbers: m[k] -/
section
variable {P : Program} (w : World) {ops : Array Oper} {rest : List Oper} {o : Oper} {a : Act} {Q : Exit → Act → World → Prop}
end
end Go.Proofs.YtnepdfpooobmcaaDoor

/- Contracts and lemmas for the proofs of this seat; each theorem states its own conditions. -/
namespace Go.Proofs.YtnepdfpooobmcaaDoor
open Go.RowKit Go.Maps
/-! the document's Value, Store, Of -/
end Go.Proofs.YtnepdfpooobmcaaDoor
