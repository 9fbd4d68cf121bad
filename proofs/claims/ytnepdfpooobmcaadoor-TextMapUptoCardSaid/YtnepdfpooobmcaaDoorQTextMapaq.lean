/- Contracts and lemmas for the proof of TextMap; each theorem states its own conditions. -/
import Derived.Test.YtnepdfpooobmcaaDoorQTextMapap
set_option linter.unusedVariables false
set_option linter.unusedSimpArgs false
/- Contracts and lemmas for the proofs of this seat; each theorem states its own conditions. -/
namespace Go.Proofs.YtnepdfpooobmcaaDoor
theorem mem_range_of {O : List Int} (h : allTo (ownOk O) O.length) : ∀ n ∈ O, 0 ≤ n ∧ n < 4 := by
  intro n hn
  obtain ⟨i, hi, rfl⟩ := List.mem_iff_getElem.1 hn
  have := h i hi
  simp [ownOk, hi] at this
  omega
theorem OwnMap.unpack {w : World} {B : Nat} {v : Value} {cuts : List ByteArray} {owners : List Int} (h : OwnMap w B v cuts owners) :
    ∃ a k a' k', v = .agg #[.slice a cuts.length k, .slice a' owners.length k'] ∧ IsMap w (.agg #[.slice a cuts.length k, .slice a' owners.length k']) cuts owners := by
  have h' := h.is
  obtain ⟨a, k, a', k', rfl, _⟩ := h'.unpack
  exact ⟨a, k, a', k', rfl, h'⟩
end Go.Proofs.YtnepdfpooobmcaaDoor
