/- Contracts and lemmas for the proof of ShardFind; each theorem states its own conditions. -/
import Derived.Test.YtnepdfpooobmcaaDoorQShardFindab
import Derived.OpenShut
set_option linter.unusedVariables false
set_option linter.unusedSimpArgs false
/- Contracts and lemmas for the proofs of this seat; each theorem states its own conditions. -/
namespace Go.Proofs.YtnepdfpooobmcaaDoor
open Go.RowKit
theorem cell_spot {w : World} {x : Addr} {v : Value} (h : w.cell? x = some v) : x.spot = none := by
  unfold World.cell? at h
  split at h
  · rename_i hx
    cases hs : x.spot with
    | none => rfl
    | some s => simp [hs] at h
  · cases h
/-- what the shell tells of a slice of numbers, as a slice of mine -/
theorem seg_of_row {w : World} {a : Option Addr} {len cap : Nat} {zs : List Int} (h : (a = none ∧ len = 0 ∧ cap = 0 ∧ zs = []) ∨
    ∃ x, a = some x ∧ len ≤ cap ∧ cap ≤ maxLen ∧ zs.length = cap ∧ (∀ i, i < zs.length → w.cell? (x.add i) = some (.int .i64 (zs.getD i 0))) ∧ ∀ n ∈ zs, (Lit.int .i64 n).wf = true) :
    Seg w (.slice a len cap) 1 (zs.take len).length (cI (zs.take len)) ∧ (∀ z ∈ zs.take len, -9223372036854775808 ≤ z ∧ z ≤ 9223372036854775807) ∧ (zs.take len).length = len := by
  rcases h with ⟨rfl, rfl, rfl, rfl⟩ | ⟨x, rfl, h1, h2, h3, h4, h5⟩
  · exact ⟨Seg.nil _ _, by simp, rfl⟩
  · have hl : (zs.take len).length = len := by rw [List.length_take]; omega
    refine ⟨⟨by rw [cI_len]; omega, some x, cap, by rw [hl], by omega, h2, fun hn => ?_⟩, fun z hz => ?_, hl⟩
    · have hs := cell_spot (h4 0 (by omega))
      obtain ⟨b, off, sp⟩ := x
      have : sp = none := by simpa [Addr.add] using hs
      subst this
      refine ⟨b, off, rfl, fun j u hu => ?_⟩
      rw [← addr_add]
      have hj : j < (zs.take len).length := by have := (List.getElem?_eq_some_iff.1 hu).1; rw [cI_len] at this; exact this
      rw [cI_at0 _ _ hj] at hu
      injection hu with hu; subst hu
      have hj' : j < zs.length := by omega
      rw [h4 j hj']
      simp [hj']
    · have := bounds_i64 (h5 z (List.mem_of_mem_take hz))
      exact this
end Go.Proofs.YtnepdfpooobmcaaDoor
