/- Contracts and lemmas for the proof of TextDeed; each theorem states its own conditions. -/
import Derived.Test.YtnepdfpooobmcaaDoorQTextDeedaz
import Derived.Test.YtnepdfpooobmcaaDoorQTextDeedbd
set_option linter.unusedVariables false
set_option linter.unusedSimpArgs false
/- Contracts and lemmas for the proofs of this seat; each theorem states its own conditions. -/
namespace Go.Proofs.YtnepdfpooobmcaaDoor
open Go.RowKit
/-! deed.do, deed.Run -/
theorem blk4 {w : World} {b : Nat} {x y z u : Value} {t : TypeId} (h : w.heap[b]? = some (.cells #[x, y, z, u] t (0, 0))) : w.cell? ⟨b, 0, none⟩ = some x ∧ w.cell? ⟨b, 1, none⟩ = some y ∧ w.cell? ⟨b, 2, none⟩ = some z ∧ w.cell? ⟨b, 3, none⟩ = some u := by
  simp [World.cell?, h]
theorem opsSm_ok {d : Ops} (hd : DeedOk d) (hf : ∀ o ∈ d, o.from_.size ≤ 9223372036854775807) : opsSm d := fun o ho => ⟨by have := (hd.ops o ho).key; simp [keyB] at this; omega, hf o ho⟩
end Go.Proofs.YtnepdfpooobmcaaDoor
