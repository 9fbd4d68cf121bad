/- Contracts and lemmas for the proof of ShardFind; each theorem states its own conditions. -/
import Derived.Test.YtnepdfpooobmcaaDoorRows
import Derived.Test.YtnepdfpooobmcaaDoorQShardFindbd
import Derived.Test.YtnepdfpooobmcaaDoorQShardFindbu
import Derived.Deep.SlicePairs
set_option linter.unusedVariables false
set_option linter.unusedSimpArgs false
/- Contracts and lemmas for the proofs of this seat; each theorem states its own conditions. -/
namespace Go.Proofs.YtnepdfpooobmcaaDoor
open Go.RowKit Go.Deep
/-! what a row tells of a slice of pairs -/
theorem bulk_one {H : Type} (d : DataW H) : 1 ≤ Rows.uptoBulk d := by
  cases d with
  | lit l => cases l <;> simp [Rows.uptoBulk]
  | nil => simp [Rows.uptoBulk]
  | ptr d => simp [Rows.uptoBulk]
  | slice elems spare => simp [Rows.uptoBulk]
  | agg parts => simp [Rows.uptoBulk]
  | iface t d => simp [Rows.uptoBulk]
  | map entries => simp [Rows.uptoBulk]
  | held h => simp [Rows.uptoBulk]
theorem bulk_map {H : Type} {α : Type} {c : Nat} {f : α → DataW H} : ∀ {l : List α}, (∀ a ∈ l, c ≤ Rows.uptoBulk (f a)) → c * l.length ≤ Rows.uptoBulkAll (l.map f)
  | [], _ => by simp [Rows.uptoBulkAll]
  | a :: l, h => by
    have h1 := h a (by simp)
    have h2 := bulk_map (l := l) fun b hb => h b (by simp [hb])
    simp only [List.map_cons, Rows.uptoBulkAll, List.length_cons, Nat.mul_succ]
    omega
end Go.Proofs.YtnepdfpooobmcaaDoor
