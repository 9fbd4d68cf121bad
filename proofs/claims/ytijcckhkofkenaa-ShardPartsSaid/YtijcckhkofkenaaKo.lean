/- Contracts and lemmas for the proofs of this seat; each theorem states its own conditions. -/
import Derived.Test.YtijcckhkofkenaaW6
namespace Go.Proofs.Ytijcckhkofkenaa
open Go.RowKit
theorem keyOf_is (k : Int) : keyB (keyOf k) = true ∧ (keyOf k).size ≤ 9223372036854775807 := by
  have h0 := wi_lo (k := k) (n := 8) (by omega)
  have h1 := wi_hi (k := k) (n := 8) (by omega)
  have h2 : (wi k 8).toNat < keysL.length := by simp [keysL]; omega
  have h3 : ∀ k, (h : k < keysL.length) → keyB keysL[k] = true ∧ keysL[k].size ≤ 2 := by decide +kernel
  have := h3 _ h2
  unfold keyOf
  rw [kAt_eq h2]; exact ⟨this.1, by omega⟩
end Go.Proofs.Ytijcckhkofkenaa
