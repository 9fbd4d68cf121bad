/- Contracts and lemmas for the proof of TextDeed; each theorem states its own conditions. -/
import Derived.Test.YtnepdfpooobmcaaDoorQTextDeedag
import Derived.OpenShut
import Derived.Test.YtnepdfpooobmcaaDoorQTextDeedao
set_option linter.unusedVariables false
set_option linter.unusedSimpArgs false
/- Contracts and lemmas for the proofs of this seat; each theorem states its own conditions. -/
namespace Go.Proofs.YtnepdfpooobmcaaDoor
open Go.RowKit
theorem cell_spot {w : World} {x : Addr} {v : Value} (h : w.cell? x = some v) : x.spot = none := by
  unfold World.cell? at h
  split at h
  · rename_i hx
    cases hs : x.spot with
    | none => rfl
    | some s => simp [hs] at h
  · cases h
end Go.Proofs.YtnepdfpooobmcaaDoor

/- Contracts and lemmas for the proofs of this seat; each theorem states its own conditions. -/
namespace Go.Proofs.YtnepdfpooobmcaaDoor
open Go.RowKit
end Go.Proofs.YtnepdfpooobmcaaDoor
