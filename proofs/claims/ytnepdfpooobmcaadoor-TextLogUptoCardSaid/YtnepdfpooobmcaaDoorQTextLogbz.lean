/- Contracts and lemmas for the proof of TextLog; each theorem states its own conditions. -/
import Derived.Shelf.Strings.SlTrimAscii
import Derived.Ground.NamesProg
import Derived.Test.YtnepdfpooobmcaaDoorProg
import Derived.Test.YtnepdfpooobmcaaDoorQTextLogaa
import Derived.Test.YtnepdfpooobmcaaDoorQTextLogbh
import Derived.Test.YtnepdfpooobmcaaDoorQTextLogaj
import Derived.Test.YtnepdfpooobmcaaDoorQTextLogak
import Derived.Lib.SlTrimSet
import Derived.Test.YtnepdfpooobmcaaDoorQTextLogau
import Derived.Test.YtnepdfpooobmcaaDoorQTextLogbi
import Derived.WalkLawsBesides
import Derived.Carry
import Derived.Test.YtnepdfpooobmcaaDoorRows
import Derived.Test.YtnepdfpooobmcaaDoorQTextLogax
import Derived.Deep.SlicePairs
import Derived.Test.YtnepdfpooobmcaaDoorQTextLogbp
import Derived.Deep.Strs
import Derived.Deep.Matrix
import Derived.Lib.SmallJoins
import Derived.Test.YtnepdfpooobmcaaDoorQTextLogaq
import Derived.Stop.LaidErr
import Derived.Lib.LaidTab
import Derived.Shelf.Vars
set_option linter.unusedVariables false
set_option linter.unusedSimpArgs false
/- Contracts and lemmas for the proofs of this seat; each theorem states its own conditions. -/
namespace Go.Proofs.YtnepdfpooobmcaaDoor
open Go.Shelf
end Go.Proofs.YtnepdfpooobmcaaDoor

/- Contracts and lemmas for the proofs of this seat; each theorem states its own conditions. -/
namespace Go.Proofs.YtnepdfpooobmcaaDoor
open Go.RowKit
end Go.Proofs.YtnepdfpooobmcaaDoor

/- Contracts and lemmas for the proofs of this seat; each theorem states its own conditions. -/
namespace Go.Proofs.YtnepdfpooobmcaaDoor
open Go.RowKit
/-! the document's Key, Map, Whose -/
end Go.Proofs.YtnepdfpooobmcaaDoor

/- Contracts and lemmas for the proofs of this seat; each theorem states its own conditions. -/
namespace Go.Proofs.YtnepdfpooobmcaaDoor
open Go.RowKit
end Go.Proofs.YtnepdfpooobmcaaDoor

/- Contracts and lemmas for the proofs of this seat; each theorem states its own conditions. -/
namespace Go.Proofs.YtnepdfpooobmcaaDoor
open Go.RowKit Go.Maps
/-! maps of texts to numbers: m[k] -/
section
variable {P : Program} (w : World) {ops : Array Oper} {rest : List Oper} {o : Oper} {a : Act} {Q : Exit → Act → World → Prop}
end
end Go.Proofs.YtnepdfpooobmcaaDoor

/- Contracts and lemmas for the proofs of this seat; each theorem states its own conditions. -/
namespace Go.Proofs.YtnepdfpooobmcaaDoor
open Go.RowKit Go.Maps
/-! the document's Value, Store, Of -/
end Go.Proofs.YtnepdfpooobmcaaDoor

/- Contracts and lemmas for the proofs of this seat; each theorem states its own conditions. -/
namespace Go.Proofs.YtnepdfpooobmcaaDoor
open Go.RowKit Go.Deep
/-! what a row tells of a slice of pairs -/
theorem bulk_one {H : Type} (d : DataW H) : 1 ≤ Rows.uptoBulk d := by
  cases d with
  | lit l => cases l <;> simp [Rows.uptoBulk]
  | nil => simp [Rows.uptoBulk]
  | ptr d => simp [Rows.uptoBulk]
  | slice elems spare => simp [Rows.uptoBulk]
  | agg parts => simp [Rows.uptoBulk]
  | iface t d => simp [Rows.uptoBulk]
  | map entries => simp [Rows.uptoBulk]
  | held h => simp [Rows.uptoBulk]
theorem bulk_map {H : Type} {α : Type} {c : Nat} {f : α → DataW H} : ∀ {l : List α}, (∀ a ∈ l, c ≤ Rows.uptoBulk (f a)) → c * l.length ≤ Rows.uptoBulkAll (l.map f)
  | [], _ => by simp [Rows.uptoBulkAll]
  | a :: l, h => by
    have h1 := h a (by simp)
    have h2 := bulk_map (l := l) fun b hb => h b (by simp [hb])
    simp only [List.map_cons, Rows.uptoBulkAll, List.length_cons, Nat.mul_succ]
    omega
end Go.Proofs.YtnepdfpooobmcaaDoor

/- Contracts and lemmas for the proofs of this seat; each theorem states its own conditions. -/
namespace Go.Proofs.YtnepdfpooobmcaaDoor
open Go.RowKit Go.Deep Go.WideShapes Go.ChangeShapes
/-! what a row tells of numbers, of rows of numbers, of names and of a map -/
def IntW (l : List Int) : Prop := ∀ z ∈ l, -9223372036854775808 ≤ z ∧ z ≤ 9223372036854775807
set_option maxRecDepth 10000 in
theorem segLL_of_trod {H : Type} {enc : TypeId × Value → H} {W : World} {base : Nat} {held : Bool} {fuel : Nat} {a : Option Addr} {len cap : Nat} {x : DataW H × List MemPlace}
    (h : DataW.trod enc Tryd.prog W base (fun _ => true) held fuel 56 [.slice a len cap] = some x) :
    ∃ ls : List (List Int), SegLL W (.slice a len cap) ls ∧ (∀ l ∈ ls, IntW l) ∧ ls.length + 1 ≤ Rows.uptoBulk x.1 := by
  rcases open_int_rows Tryd.underlying56 Tryd.underlying23 Tryd.underlying3 (by kernel_rfl) (by kernel_rfl) h with ⟨hcs, rfl⟩ | ⟨ad, len', cap', A, L, C, Z, hcs, _, hl, hm, rfl, hx⟩
  · injection hcs with hcs _
    injection hcs with e1 e2 e3
    subst e1; subst e2; subst e3
    exact ⟨[], segll_nil _, by simp, by simp [Rows.uptoBulk]⟩
  · injection hcs with hcs _
    injection hcs with e1 e2 e3
    subst e1; subst e2; subst e3
    obtain ⟨ls, g1, g2, g3⟩ := segll_of_rows hl hm hx
    refine ⟨ls, g1, g3, ?_⟩
    have hb := bulk_map (c := 1) (H := H) (f := fun r => intRow .i64 (A r) (L r) (Z r)) (l := List.range len) (fun i _ => bulk_one _)
    simp only [List.length_range] at hb
    simp only [Rows.uptoBulk]
    omega
end Go.Proofs.YtnepdfpooobmcaaDoor

/- Contracts and lemmas for the proofs of this seat; each theorem states its own conditions. -/
namespace Go.Proofs.YtnepdfpooobmcaaDoor
open Go.RowKit
/-! what a row's laid variables give -/
theorem rowE (u : TypeId) (h : Tryd.prog.typeName? 3 u = some "*errors.errorString") : u = 195 :=
  typeName_ptr_named (nm := "errors.errorString") (by rw [show "*" ++ "errors.errorString" = "*errors.errorString" by decide]; kernel_rfl) (by kernel_rfl) (by decide) u (by rw [show "*" ++ "errors.errorString" = "*errors.errorString" by decide]; exact h)
theorem cell_of_var {P : Program} {w : World} {n : String} {g : Nat} {v : Value} (hg : P.globalNamed n = some g) (h : w.var? P n = some #[v]) : w.cell? ⟨g, 0, none⟩ = some v := by
  unfold World.var? at h
  rw [hg, Option.bind_some] at h
  cases hh : w.heap[g]? with
  | none => simp [hh] at h
  | some o =>
    rw [hh] at h
    cases o with
    | cells cs t f =>
      simp only [Option.some.injEq] at h
      subst h
      simp [World.cell?, hh]
    | _ => simp at h
theorem laidT_of {W : World} {a b c d : DataW Unit} {t1 t2 : List UInt8} (hL : laidMet Tryd.prog [("math/bits.deBruijn32tab", a), ("math/bits.deBruijn64tab", b), ("internal/strconv.uint64pow10", Lib.tabData .u64 Lib.pow10Tab), ("unicode/utf8.acceptRanges", c), ("strconv.ErrRange", .iface "*errors.errorString" (.ptr (.agg [.lit (.string t1)]))), ("strconv.ErrSyntax", .iface "*errors.errorString" (.ptr (.agg [.lit (.string t2)]))), ("unicode/utf8.first", d)] W)
    (hS : W.ShapedOpen Tryd.prog) : LaidT W := by
  obtain ⟨a1, s1, hv1, _, _, _⟩ := laid_sentinel (g := 5) hL.tail.tail.tail.tail (by kernel_rfl) (by kernel_rfl) Tryd.underlying121 rowE Tryd.underlying195 Tryd.underlying197 rfl rfl Tryd.underlying9 (by kernel_rfl) (by kernel_rfl)
  obtain ⟨a2, s2, hv2, _, _, _⟩ := laid_sentinel (g := 4) hL.tail.tail.tail.tail.tail (by kernel_rfl) (by kernel_rfl) Tryd.underlying121 rowE Tryd.underlying195 Tryd.underlying197 rfl rfl Tryd.underlying9 (by kernel_rfl) (by kernel_rfl)
  refine ⟨Lib.tabIs_of_head (g := 3) (by kernel_rfl) (by kernel_rfl) Tryd.underlying183 Tryd.underlying101 (by kernel_rfl) (by kernel_rfl) hL.tail.tail, ⟨_, _, cell_of_var (by kernel_rfl) hv2⟩, ⟨_, _, cell_of_var (by kernel_rfl) hv1⟩, ?_⟩
  exact cell_of_shapedOpen_int (zero := #[.int .i64 0]) (t := 3) (k := .i64) hS (by decide) (by kernel_rfl) rfl (by kernel_rfl) (by kernel_rfl) Tryd.underlying3
end Go.Proofs.YtnepdfpooobmcaaDoor
