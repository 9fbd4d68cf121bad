/- Contracts and lemmas for the proof of ShardFind; each theorem states its own conditions. -/
import Derived.Test.YtnepdfpooobmcaaDoorQShardFindbj
import Derived.Lib.LaidU8
set_option linter.unusedVariables false
set_option linter.unusedSimpArgs false
/- Contracts and lemmas for the proofs of this seat; each theorem states its own conditions. -/
namespace Go.Proofs.YtnepdfpooobmcaaDoor
open Go.RowKit
/-- unicode/utf8's tables, off a row's laid variables -/
theorem letTabs_of {W : World} {a b : DataW Unit} (ha : a = Lib.acceptData) (hb : b = Lib.firstData) (hL : laidMet Tryd.prog [("unicode/utf8.acceptRanges", a), ("unicode/utf8.first", b)] W) : LetTabs W := by
  subst ha; subst hb
  exact utf8Tabs_of_reads { lays230 with } ⟨by kernel_rfl, by kernel_rfl, by kernel_rfl, by kernel_rfl, by kernel_rfl, by kernel_rfl, by kernel_rfl⟩ (Lib.laidMet.reads hL (.tail _ (.head _))) (Lib.laidMet.reads hL (.head _))
end Go.Proofs.YtnepdfpooobmcaaDoor
