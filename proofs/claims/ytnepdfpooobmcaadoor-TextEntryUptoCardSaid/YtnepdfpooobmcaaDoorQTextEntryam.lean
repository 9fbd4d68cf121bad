/- Contracts and lemmas for the proof of TextEntry; each theorem states its own conditions. -/
import Derived.Test.YtnepdfpooobmcaaDoorQTextEntryal
set_option linter.unusedVariables false
set_option linter.unusedSimpArgs false
/- Contracts and lemmas for the proofs of this seat; each theorem states its own conditions. -/
namespace Go.Proofs.YtnepdfpooobmcaaDoor
open Go.RowKit
/-- the number that Within makes -/
def wi (k n : Int) : Int := (k % 18446744073709551616) % n
theorem wi_lo {k n : Int} (hn : 0 < n) : 0 ≤ wi k n := Int.emod_nonneg _ (by omega)
theorem wi_hi {k n : Int} (hn : 0 < n) : wi k n < n := Int.emod_lt_of_pos _ hn
theorem within_any (k n : Int) (w : World) (hn : 0 < n) (hn' : n ≤ 1000000000) : Calls Tryd.prog 21 #[.int .i64 k, .int .i64 n] w fun e w' => e = .returned (.int .i64 (wi k n)) ∧ w = w' := by
  have hu : IntKind.u64.wrap n = n := by rw [IntKind.wrap_u64]; omega
  have hnz : ¬ n = 0 := by omega
  have hl := wi_lo (k := k) hn
  have hh := wi_hi (k := k) hn
  go_enter Tryd.func21, Tryd.ntmps21
  go_wp2
  go_ret
  refine ⟨rI ?_, rfl⟩
  have e : (IntKind.u64.wrap k).tmod n = wi k n := by
    rw [IntKind.wrap_u64, Int.tmod_eq_emod_of_nonneg (by omega)]; rfl
  show wrap64 ((IntKind.u64.wrap k).tmod n) = wi k n
  rw [e]; unfold wrap64; omega
/-- the keys that the statements use -/
def keysL : List ByteArray := [⟨#[97]⟩, ⟨#[98]⟩, ⟨#[99]⟩, ⟨#[100]⟩, ⟨#[109]⟩, ⟨#[110]⟩, ⟨#[122]⟩, ⟨#[97, 98]⟩]
end Go.Proofs.YtnepdfpooobmcaaDoor
