/- Contracts and lemmas for the proof of TextDeed; each theorem states its own conditions. -/
import Derived.Test.YtnepdfpooobmcaaDoorQTextDeedbx
import Derived.Test.YtnepdfpooobmcaaDoorQTextDeedby
set_option linter.unusedVariables false
set_option linter.unusedSimpArgs false
/- Contracts and lemmas for the proofs of this seat; each theorem states its own conditions. -/
namespace Go.Proofs.YtnepdfpooobmcaaDoor
open Go.RowKit
theorem opsW_n {d : Ops} (h : opsW d) : ∀ o ∈ d, -9223372036854775808 ≤ o.n ∧ o.n ≤ 9223372036854775807 := fun o ho => by
  have h4 := (h o ho).2.2.2
  have e1 : IntKind.i64.min = -9223372036854775808 := rfl
  have e2 : IntKind.i64.max = 9223372036854775807 := rfl
  simp [Lit.wf, e1, e2] at h4
  omega
end Go.Proofs.YtnepdfpooobmcaaDoor
