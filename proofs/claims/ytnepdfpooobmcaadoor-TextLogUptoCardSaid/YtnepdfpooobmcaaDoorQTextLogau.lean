/- Contracts and lemmas for the proof of TextLog; each theorem states its own conditions. -/
import Derived.Test.YtnepdfpooobmcaaDoorQTextLogaj
import Derived.Test.YtnepdfpooobmcaaDoorQTextLogas
import Derived.Deep.QuietTactic
import Derived.BigQuiet
set_option linter.unusedVariables false
set_option linter.unusedSimpArgs false
/- Contracts and lemmas for the proofs of this seat; each theorem states its own conditions. -/
namespace Go.Proofs.YtnepdfpooobmcaaDoor
open Go.RowKit
theorem value_any (n : Int) (w : World) : Calls Tryd.prog 86 #[.int .i64 n] w fun e w' => e = .returned (.bool (valB n)) ∧ w = w' := by
  by_cases h1 : -1000000000 ≤ n
  · by_cases h2 : n ≤ 1000000000
    · have HV := hid (show valB n = true by simp [valB, h1, h2])
      go_enter Tryd.func86, Tryd.ntmps86
      go_wp2
      go_ret
      exact ⟨rB HV.out.symm, rfl⟩
    · have HV := hid (show valB n = false by simp [valB, h2])
      have h2' : 1000000000 < n := by omega
      go_enter Tryd.func86, Tryd.ntmps86
      go_wp2
      go_ret
      exact ⟨rB HV.out.symm, rfl⟩
  · have HV := hid (show valB n = false by simp [valB, h1])
    have h1' : n < -1000000000 := by omega
    go_enter Tryd.func86, Tryd.ntmps86
    go_wp2
    go_ret
    exact ⟨rB HV.out.symm, rfl⟩
theorem zeroTo_succ {f : Nat → Int} {k : Nat} (h : ∀ j, j < k → f j = 0) (hk : f k = 0) : ∀ j, j < k + 1 → f j = 0 := by
  intro j hj
  rcases Nat.lt_succ_iff_lt_or_eq.1 hj with h' | h'
  · exact h j h'
  · subst h'; exact hk
def zeroTo (f : Nat → Int) (k : Nat) : Prop := ∀ j, j < k → f j = 0
end Go.Proofs.YtnepdfpooobmcaaDoor
