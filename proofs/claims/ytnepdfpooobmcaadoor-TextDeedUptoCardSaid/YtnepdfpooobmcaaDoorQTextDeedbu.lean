/- Contracts and lemmas for the proof of TextDeed; each theorem states its own conditions. -/
import Derived.Test.YtnepdfpooobmcaaDoorQTextDeedbt
import Derived.Test.YtnepdfpooobmcaaDoorQTextDeedaf
import Derived.OneCell
set_option linter.unusedVariables false
set_option linter.unusedSimpArgs false
/- Contracts and lemmas for the proofs of this seat; each theorem states its own conditions. -/
namespace Go.Proofs.YtnepdfpooobmcaaDoor
open Go.RowKit Go.Maps
/-! roref.List -/
end Go.Proofs.YtnepdfpooobmcaaDoor

/- Contracts and lemmas for the proofs of this seat; each theorem states its own conditions. -/
namespace Go.Proofs.YtnepdfpooobmcaaDoor
open Go.RowKit
/-! plain laws of Join, Scan, Total -/
def joinP (a b : Prs) : Prs := b.foldl (fun o p => withP o p.1 p.2) a
theorem join_cons (a : Prs) (p : ByteArray × Int) (b : Prs) : joinP a (p :: b) = joinP (withP a p.1 p.2) b := rfl
end Go.Proofs.YtnepdfpooobmcaaDoor
