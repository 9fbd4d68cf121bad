/- Contracts and lemmas for the proof of TextMap; each theorem states its own conditions. -/
import Derived.Test.YtnepdfpooobmcaaDoorQTextMapac
set_option linter.unusedVariables false
set_option linter.unusedSimpArgs false
/- Contracts and lemmas for the proofs of this seat; each theorem states its own conditions. -/
namespace Go.Proofs.YtnepdfpooobmcaaDoor
/-! the order of strings -/
/-! sorted lists of strings -/
def kAt (ks : List ByteArray) (i : Nat) : ByteArray := ks.getD i ByteArray.empty
theorem kAt_eq {ks : List ByteArray} {i : Nat} (h : i < ks.length) : kAt ks i = ks[i] := by simp [kAt, h]
end Go.Proofs.YtnepdfpooobmcaaDoor
