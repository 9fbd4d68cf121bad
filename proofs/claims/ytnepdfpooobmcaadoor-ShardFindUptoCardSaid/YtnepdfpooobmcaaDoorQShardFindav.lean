/- Contracts and lemmas for the proof of ShardFind; each theorem states its own conditions. -/
import Derived.Test.YtnepdfpooobmcaaDoorQShardFindau
import Derived.Test.YtnepdfpooobmcaaDoorQShardFindap
import Derived.Lib.AtoiErrMem
import Derived.Sort.Grow
set_option linter.unusedVariables false
set_option linter.unusedSimpArgs false
/- Contracts and lemmas for the proofs of this seat; each theorem states its own conditions. -/
namespace Go.Proofs.YtnepdfpooobmcaaDoor
open Go.RowKit
/-! strconv.Itoa, strconv.Atoi, text.num, strings.Split -/
theorem grownX {w w' : World} (E : Ext w w') (row : Option Nat) : w.grownBy w' row := ⟨E.os, E.tape, E.output, E.size, fun k hk _ => E.block k hk⟩
theorem grownS (w : World) (p : Addr) (u : Value) : w.grownBy (w.setCell p u) (some p.block) :=
  ⟨rfl, rfl, rfl, by simp, fun k _ hne => Below.heap_setCell _ _ _ _ (fun e => hne (by rw [e]))⟩
/-- what the laid variables of the library hold -/
structure LaidT (w : World) : Prop where
  tab : Lib.TabIs Tryd.prog w "internal/strconv.uint64pow10" .u64 Lib.pow10Tab
  syn : ∃ te pe, w.cell? ⟨4, 0, none⟩ = some (.iface te pe)
  rng : ∃ te pe, w.cell? ⟨5, 0, none⟩ = some (.iface te pe)
  mx : ∃ m, w.cell? ⟨0, 0, none⟩ = some (.int .i64 m)
theorem var_ext {P : Program} {w w' : World} (E : Ext w w') {n : String} {cs : Array Value} (h : w.var? P n = some cs) : w'.var? P n = some cs := by
  unfold World.var? at h ⊢
  cases hg : P.globalNamed n with
  | none => simp [hg] at h
  | some g =>
    simp only [hg, Option.bind_some] at h ⊢
    cases hh : w.heap[g]? with
    | none => simp [hh] at h
    | some o => rw [E.heap hh]; rw [hh] at h; exact h
theorem LaidT.ext {w w' : World} (h : LaidT w) (E : Ext w w') : LaidT w' := by
  refine ⟨var_ext E h.tab, ?_, ?_, ?_⟩
  · obtain ⟨t, p, q⟩ := h.syn; exact ⟨t, p, E.cell q⟩
  · obtain ⟨t, p, q⟩ := h.rng; exact ⟨t, p, E.cell q⟩
  · obtain ⟨m, q⟩ := h.mx; exact ⟨m, E.cell q⟩
end Go.Proofs.YtnepdfpooobmcaaDoor
