/- Contracts and lemmas for the proof of TextEntry; each theorem states its own conditions. -/
import Derived.Test.YtnepdfpooobmcaaDoorQTextEntryaq
import Derived.Stop.LaidErr
import Derived.Lib.LaidTab
import Derived.Shelf.Vars
import Derived.Test.YtnepdfpooobmcaaDoorQTextEntrybx
set_option linter.unusedVariables false
set_option linter.unusedSimpArgs false
/- Contracts and lemmas for the proofs of this seat; each theorem states its own conditions. -/
namespace Go.Proofs.YtnepdfpooobmcaaDoor
open Go.RowKit
/-! what a row's laid variables give -/
theorem rowE (u : TypeId) (h : Tryd.prog.typeName? 3 u = some "*errors.errorString") : u = 195 :=
  typeName_ptr_named (nm := "errors.errorString") (by rw [show "*" ++ "errors.errorString" = "*errors.errorString" by decide]; kernel_rfl) (by kernel_rfl) (by decide) u (by rw [show "*" ++ "errors.errorString" = "*errors.errorString" by decide]; exact h)
theorem cell_of_var {P : Program} {w : World} {n : String} {g : Nat} {v : Value} (hg : P.globalNamed n = some g) (h : w.var? P n = some #[v]) : w.cell? ⟨g, 0, none⟩ = some v := by
  unfold World.var? at h
  rw [hg, Option.bind_some] at h
  cases hh : w.heap[g]? with
  | none => simp [hh] at h
  | some o =>
    rw [hh] at h
    cases o with
    | cells cs t f =>
      simp only [Option.some.injEq] at h
      subst h
      simp [World.cell?, hh]
    | _ => simp at h
theorem laidT_of {W : World} {a b c d : DataW Unit} {t1 t2 : List UInt8} (hL : laidMet Tryd.prog [("math/bits.deBruijn32tab", a), ("math/bits.deBruijn64tab", b), ("internal/strconv.uint64pow10", Lib.tabData .u64 Lib.pow10Tab), ("unicode/utf8.acceptRanges", c), ("strconv.ErrRange", .iface "*errors.errorString" (.ptr (.agg [.lit (.string t1)]))), ("strconv.ErrSyntax", .iface "*errors.errorString" (.ptr (.agg [.lit (.string t2)]))), ("unicode/utf8.first", d)] W)
    (hS : W.ShapedOpen Tryd.prog) : LaidT W := by
  obtain ⟨a1, s1, hv1, _, _, _⟩ := laid_sentinel (g := 5) hL.tail.tail.tail.tail (by kernel_rfl) (by kernel_rfl) Tryd.underlying121 rowE Tryd.underlying195 Tryd.underlying197 rfl rfl Tryd.underlying9 (by kernel_rfl) (by kernel_rfl)
  obtain ⟨a2, s2, hv2, _, _, _⟩ := laid_sentinel (g := 4) hL.tail.tail.tail.tail.tail (by kernel_rfl) (by kernel_rfl) Tryd.underlying121 rowE Tryd.underlying195 Tryd.underlying197 rfl rfl Tryd.underlying9 (by kernel_rfl) (by kernel_rfl)
  refine ⟨Lib.tabIs_of_head (g := 3) (by kernel_rfl) (by kernel_rfl) Tryd.underlying183 Tryd.underlying101 (by kernel_rfl) (by kernel_rfl) hL.tail.tail, ⟨_, _, cell_of_var (by kernel_rfl) hv2⟩, ⟨_, _, cell_of_var (by kernel_rfl) hv1⟩, ?_⟩
  exact cell_of_shapedOpen_int (zero := #[.int .i64 0]) (t := 3) (k := .i64) hS (by decide) (by kernel_rfl) rfl (by kernel_rfl) (by kernel_rfl) Tryd.underlying3
end Go.Proofs.YtnepdfpooobmcaaDoor

/- Contracts and lemmas for the proofs of this seat; each theorem states its own conditions. -/
namespace Go.Proofs.YtnepdfpooobmcaaDoor
open Go.RowKit
theorem opsW_n {d : Ops} (h : opsW d) : ∀ o ∈ d, -9223372036854775808 ≤ o.n ∧ o.n ≤ 9223372036854775807 := fun o ho => by
  have h4 := (h o ho).2.2.2
  have e1 : IntKind.i64.min = -9223372036854775808 := rfl
  have e2 : IntKind.i64.max = 9223372036854775807 := rfl
  simp [Lit.wf, e1, e2] at h4
  omega
end Go.Proofs.YtnepdfpooobmcaaDoor
