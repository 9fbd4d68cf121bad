/- Contracts and lemmas for the proof of TextDeed; each theorem states its own conditions. -/
import Derived.Test.YtnepdfpooobmcaaDoorQTextDeedan
set_option linter.unusedVariables false
set_option linter.unusedSimpArgs false
/- Contracts and lemmas for the proofs of this seat; each theorem states its own conditions. -/
namespace Go.Proofs.YtnepdfpooobmcaaDoor
open Go.RowKit
end Go.Proofs.YtnepdfpooobmcaaDoor

/- Contracts and lemmas for the proofs of this seat; each theorem states its own conditions. -/
namespace Go.Proofs.YtnepdfpooobmcaaDoor
open Go.RowKit
end Go.Proofs.YtnepdfpooobmcaaDoor

/- Contracts and lemmas for the proofs of this seat; each theorem states its own conditions. -/
namespace Go.Proofs.YtnepdfpooobmcaaDoor
open Go.RowKit
/-- the keys that the statements use -/
def keysL : List ByteArray := [⟨#[97]⟩, ⟨#[98]⟩, ⟨#[99]⟩, ⟨#[100]⟩, ⟨#[109]⟩, ⟨#[110]⟩, ⟨#[122]⟩, ⟨#[97, 98]⟩]
end Go.Proofs.YtnepdfpooobmcaaDoor
