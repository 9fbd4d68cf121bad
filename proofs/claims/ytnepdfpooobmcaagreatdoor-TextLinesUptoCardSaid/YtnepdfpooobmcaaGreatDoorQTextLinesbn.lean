/- Contracts and lemmas for the proof of TextLines; each theorem states its own conditions. -/
import Derived.Test.YtnepdfpooobmcaaGreatDoorQTextLinesbb
import Derived.Test.YtnepdfpooobmcaaGreatDoorQTextLinesbl
import Derived.Test.YtnepdfpooobmcaaGreatDoorQTextLinesaq
import Derived.WalkLawsBesides
import Derived.Carry
set_option linter.unusedVariables false
set_option linter.unusedSimpArgs false
/- Contracts and lemmas for the proofs of this seat; each theorem states its own conditions. -/
namespace Go.Proofs.YtnepdfpooobmcaaGreatDoor
open Go.RowKit Go.Maps
/-! maps of texts to numbers: m[k] -/
section
variable {P : Program} (w : World) {ops : Array Oper} {rest : List Oper} {o : Oper} {a : Act} {Q : Exit → Act → World → Prop}
end
end Go.Proofs.YtnepdfpooobmcaaGreatDoor

/- Contracts and lemmas for the proofs of this seat; each theorem states its own conditions. -/
namespace Go.Proofs.YtnepdfpooobmcaaGreatDoor
open Go.RowKit Go.Maps
/-! the document's Value, Store, Of -/
theorem rvalue_any (n : Int) (w : World) : Calls Tryz.prog 104 #[.int .i64 n] w fun e w' => e = .returned (.bool (valB n)) ∧ w' = w := by
  have WI := hid (rwithin_any n (-1000000000) 1000000000 w)
  have hv : (decide (-1000000000 ≤ n) && decide (n ≤ 1000000000)) = valB n := by rw [Bool.eq_iff_iff]; simp [valB]
  rw [hv] at WI
  have WI2 := hid WI.out
  clear WI hv
  go_enter Tryz.func104, Tryz.ntmps104
  go_wp2_with fail
  refine (WI2.out).mono ?_
  rintro e w' ⟨rfl, rfl⟩
  go_wp2
  go_ret
  exact ⟨rfl, rfl⟩
end Go.Proofs.YtnepdfpooobmcaaGreatDoor

/- Contracts and lemmas for the proofs of this seat; each theorem states its own conditions. -/
namespace Go.Proofs.YtnepdfpooobmcaaGreatDoor
open Go.RowKit
/-! the document's Store -/
end Go.Proofs.YtnepdfpooobmcaaGreatDoor
