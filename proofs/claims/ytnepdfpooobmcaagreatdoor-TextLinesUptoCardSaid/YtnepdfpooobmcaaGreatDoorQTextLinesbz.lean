/- Contracts and lemmas for the proof of TextLines; each theorem states its own conditions. -/
import Derived.Test.YtnepdfpooobmcaaGreatDoorQTextLinesby
import Derived.Test.YtnepdfpooobmcaaGreatDoorQTextLinesbg
import Derived.Test.YtnepdfpooobmcaaGreatDoorQTextLinesak
import Derived.Deep.Strs
import Derived.Deep.Matrix
import Derived.Lib.SmallJoins
import Derived.Test.YtnepdfpooobmcaaGreatDoorQTextLinesbb
import Derived.Test.YtnepdfpooobmcaaGreatDoorQTextLinesbe
import Derived.Test.YtnepdfpooobmcaaGreatDoorQTextLinesao
import Derived.Stop.LaidErr
import Derived.Lib.LaidTab
import Derived.Shelf.Vars
set_option linter.unusedVariables false
set_option linter.unusedSimpArgs false
/- Contracts and lemmas for the proofs of this seat; each theorem states its own conditions. -/
namespace Go.Proofs.YtnepdfpooobmcaaGreatDoor
open Go.RowKit Go.Deep Go.WideShapes Go.ChangeShapes
/-! what a row tells of numbers, of rows of numbers, of names and of a map -/
def StrW (l : List ByteArray) : Prop := ∀ s ∈ l, s.size ≤ maxLen
def IntW (l : List Int) : Prop := ∀ z ∈ l, -9223372036854775808 ≤ z ∧ z ≤ 9223372036854775807
theorem segI_of_trod {H : Type} {enc : TypeId × Value → H} {W : World} {base : Nat} {held : Bool} {fuel : Nat} {v : Value} {x : DataW H × List MemPlace}
    (h : DataW.trod enc Tryz.prog W base (fun _ => true) held fuel 26 [v] = some x) :
    ∃ a len cap, ∃ l : List Int, v = .slice a len cap ∧ Seg W (.slice a len cap) 1 l.length (cI l) ∧ IntW l ∧ l.length + 1 ≤ Rows.uptoBulk x.1 := by
  rcases open_ints Tryz.underlying26 Tryz.underlying3 (by kernel_rfl) h with ⟨hcs, rfl⟩ | ⟨ad, len, cap, zs, hcs, _, hl, hm, hz, rfl, hcell, hwz⟩
  · injection hcs with hcs _
    exact ⟨none, 0, 0, [], hcs, Seg.nil _ _, by simp [IntW], by simp [Rows.uptoBulk]⟩
  · injection hcs with hcs _
    simp only [if_true] at hz
    obtain ⟨s1, s2, s3⟩ := seg_of_row (w := W) (a := some ad) (len := len) (cap := cap) (zs := zs) (.inr ⟨ad, rfl, hl, hm, hz, hcell, hwz⟩)
    refine ⟨some ad, len, cap, zs.take len, hcs, s1, s2, ?_⟩
    have hb := bulk_map (c := 1) (H := H) (f := fun n : Int => DataW.lit (.int .i64 n)) (l := zs.take len) (fun i _ => bulk_one _)
    simp only [Rows.uptoBulk, lits]
    omega
theorem segS_of_trod {H : Type} {enc : TypeId × Value → H} {W : World} {base : Nat} {held : Bool} {fuel : Nat} {v : Value} {x : DataW H × List MemPlace}
    (h : DataW.trod enc Tryz.prog W base (fun _ => true) held fuel 25 [v] = some x) :
    ∃ a len cap, ∃ l : List ByteArray, v = .slice a len cap ∧ Seg W (.slice a len cap) 1 l.length (cS l) ∧ StrW l ∧ l.length + 1 ≤ Rows.uptoBulk x.1 := by
  rcases open_strs Tryz.underlying25 Tryz.underlying9 (by kernel_rfl) h with ⟨hcs, rfl⟩ | ⟨ad, len, cap, m, Sx, hcs, _, hl, hm, hmm, rfl, hx⟩
  · injection hcs with hcs _
    exact ⟨none, 0, 0, [], hcs, Seg.nil _ _, by simp [StrW], by simp [Rows.uptoBulk]⟩
  · injection hcs with hcs _
    simp only [if_true] at hmm
    refine ⟨some ad, len, cap, (List.range len).map Sx, hcs, ⟨by simp [cS], some ad, cap, by simp, by simpa using hl, hm, fun hn => ?_⟩, ?_, ?_⟩
    · simp at hn
      have hs := cell_spot (hx 0 (by omega)).1
      obtain ⟨b, off, sp⟩ := ad
      have : sp = none := by simpa [Addr.add] using hs
      subst this
      refine ⟨b, off, rfl, fun j u hu => ?_⟩
      rw [← addr_add]
      obtain ⟨hj, e⟩ := List.getElem?_eq_some_iff.1 hu
      simp [cS] at hj e
      subst e
      exact (hx j (by omega)).1
    · intro s hs
      simp at hs
      obtain ⟨i, hi, rfl⟩ := hs
      exact (hx i (by omega)).2
    · have hb := bulk_map (c := 1) (H := H) (f := fun i => DataW.lit (.string (Sx i).data.toList)) (l := List.range len) (fun i _ => bulk_one _)
      simp only [List.length_range] at hb
      simp only [List.length_map, List.length_range, Rows.uptoBulk]
      omega
set_option maxRecDepth 10000 in
theorem map_of_trod {H : Type} {enc : TypeId × Value → H} {W : World} {base : Nat} {held : Bool} {fuel : Nat} {cs : List Value} {x : DataW H × List MemPlace}
    (h : DataW.trod enc Tryz.prog W base (fun _ => true) held fuel 28 cs = some x) :
    ∃ v1 v2, ∃ C : List ByteArray, ∃ O : List Int, cs = [v1, v2] ∧ IsMap W (.agg #[v1, v2]) C O ∧ StrW C ∧ IntW O ∧ C.length + O.length + 3 ≤ Rows.uptoBulk x.1 := by
  have kd : Tryz.prog.cellsOf 28 = 2 := by kernel_rfl
  have k1 : Tryz.prog.cellsOf 25 = 1 := by kernel_rfl
  have k2 : Tryz.prog.cellsOf 26 = 1 := by kernel_rfl
  obtain ⟨y0, y1, n, rfl, hl, h0, h1⟩ := trod_struct2 Tryz.underlying28 h
  rw [kd] at hl
  match cs, hl with
  | [c1, c2], _ =>
    simp [k1, k2] at h0 h1
    obtain ⟨a, len, cap, C, e1, q1, q2, q3⟩ := segS_of_trod h0
    obtain ⟨a', len', cap', O, e2, r1, r2, r3⟩ := segI_of_trod h1
    refine ⟨c1, c2, C, O, rfl, ⟨c1, c2, rfl, by rw [e1]; exact q1, by rw [e2]; exact r1⟩, q2, r2, ?_⟩
    simp only [Rows.uptoBulk, Rows.uptoBulkAll]
    omega
end Go.Proofs.YtnepdfpooobmcaaGreatDoor

/- Contracts and lemmas for the proofs of this seat; each theorem states its own conditions. -/
namespace Go.Proofs.YtnepdfpooobmcaaGreatDoor
open Go.RowKit Go.Deep Go.WideShapes Go.ChangeShapes
/-! what a row tells of an entry -/
structure EntW (x : Ent) : Prop where
  ops : opsW x.ops
  cuts : StrW x.cuts
  own : IntW x.own
theorem EntW.sz {x : Ent} (h : EntW x) : EntSz x := ⟨h.ops.sm, fun k hk => by have := h.cuts k hk; unfold maxLen at this; omega⟩
set_option maxRecDepth 10000 in
theorem entry_of_trod {H : Type} {enc : TypeId × Value → H} {W : World} {base : Nat} {held : Bool} {fuel : Nat} {cs : List Value} {x : DataW H × List MemPlace}
    (h : DataW.trod enc Tryz.prog W base (fun _ => true) held fuel 45 cs = some x) :
    ∃ e : EV, ∃ y : Ent, cs = evC e ∧ EntSeg W e y ∧ EntW y ∧ y.ops.length + y.cuts.length + y.own.length + 5 ≤ Rows.uptoBulk x.1 := by
  have kd : Tryz.prog.cellsOf 45 = 4 := by kernel_rfl
  have k0 : Tryz.prog.cellsOf 24 = 1 := by kernel_rfl
  have k1 : Tryz.prog.cellsOf 4 = 1 := by kernel_rfl
  have k2 : Tryz.prog.cellsOf 28 = 2 := by kernel_rfl
  obtain ⟨y0, y1, y2, n, rfl, hl, h0, h1, h2⟩ := trod_struct3 Tryz.underlying45 h
  rw [kd] at hl
  match cs, hl with
  | [c0, c1, c2, c3], _ =>
    simp [k0, k1, k2] at h0 h1 h2
    obtain ⟨a, len, cap, d, e0, q1, q2, q3⟩ := deed_of_trod h0
    obtain ⟨b, e1, rfl⟩ := DataW.trod_bool Tryz.underlying4 h1
    obtain ⟨v1, v2, C, O, e2, ⟨u1, u2, e3, r1, r2⟩, r3, r4, r5⟩ := map_of_trod h2
    injection e0 with e0 _
    injection e1 with e1 _
    injection e2 with e2 e4
    injection e4 with e4 _
    injection e3 with e3
    simp at e3
    obtain ⟨rfl, rfl⟩ := e3
    subst e0; subst e1; subst e2; subst e4
    refine ⟨(.slice a len cap, b, c2, c3), ⟨d, b, C, O⟩, rfl, ⟨q1, rfl, r1, r2⟩, ⟨q2, r3, r4⟩, ?_⟩
    simp only [Rows.uptoBulk, Rows.uptoBulkAll]
    show d.length + C.length + O.length + 5 ≤ _
    omega
end Go.Proofs.YtnepdfpooobmcaaGreatDoor

/- Contracts and lemmas for the proofs of this seat; each theorem states its own conditions. -/
namespace Go.Proofs.YtnepdfpooobmcaaGreatDoor
open Go.RowKit
/-! what a row's laid variables give -/
theorem rowE (u : TypeId) (h : Tryz.prog.typeName? 3 u = some "*errors.errorString") : u = 331 :=
  typeName_ptr_named (nm := "errors.errorString") (by rw [show "*" ++ "errors.errorString" = "*errors.errorString" by decide]; kernel_rfl) (by kernel_rfl) (by decide) u (by rw [show "*" ++ "errors.errorString" = "*errors.errorString" by decide]; exact h)
theorem cell_of_var {P : Program} {w : World} {n : String} {g : Nat} {v : Value} (hg : P.globalNamed n = some g) (h : w.var? P n = some #[v]) : w.cell? ⟨g, 0, none⟩ = some v := by
  unfold World.var? at h
  rw [hg, Option.bind_some] at h
  cases hh : w.heap[g]? with
  | none => simp [hh] at h
  | some o =>
    rw [hh] at h
    cases o with
    | cells cs t f =>
      simp only [Option.some.injEq] at h
      subst h
      simp [World.cell?, hh]
    | _ => simp at h
theorem laidT_of {W : World} {a b c d : DataW Unit} {t1 t2 : List UInt8} (hL : laidMet Tryz.prog [("math/bits.deBruijn32tab", a), ("math/bits.deBruijn64tab", b), ("internal/strconv.uint64pow10", Lib.tabData .u64 Lib.pow10Tab), ("unicode/utf8.acceptRanges", c), ("strconv.ErrRange", .iface "*errors.errorString" (.ptr (.agg [.lit (.string t1)]))), ("strconv.ErrSyntax", .iface "*errors.errorString" (.ptr (.agg [.lit (.string t2)]))), ("unicode/utf8.first", d)] W)
    (hS : W.ShapedOpen Tryz.prog) : LaidT W := by
  obtain ⟨a1, s1, hv1, _, _, _⟩ := laid_sentinel (g := 3) hL.tail.tail.tail.tail (by kernel_rfl) (by kernel_rfl) Tryz.underlying209 rowE Tryz.underlying331 Tryz.underlying333 rfl rfl Tryz.underlying9 (by kernel_rfl) (by kernel_rfl)
  obtain ⟨a2, s2, hv2, _, _, _⟩ := laid_sentinel (g := 2) hL.tail.tail.tail.tail.tail (by kernel_rfl) (by kernel_rfl) Tryz.underlying209 rowE Tryz.underlying331 Tryz.underlying333 rfl rfl Tryz.underlying9 (by kernel_rfl) (by kernel_rfl)
  refine ⟨Lib.tabIs_of_head (g := 1) (by kernel_rfl) (by kernel_rfl) Tryz.underlying307 Tryz.underlying171 (by kernel_rfl) (by kernel_rfl) hL.tail.tail, ⟨_, _, cell_of_var (by kernel_rfl) hv2⟩, ⟨_, _, cell_of_var (by kernel_rfl) hv1⟩, ?_⟩
  exact cell_of_shapedOpen_int (zero := #[.int .i64 0]) (t := 3) (k := .i64) hS (by decide) (by kernel_rfl) rfl (by kernel_rfl) (by kernel_rfl) Tryz.underlying3
end Go.Proofs.YtnepdfpooobmcaaGreatDoor

/- Contracts and lemmas for the proofs of this seat; each theorem states its own conditions. -/
namespace Go.Proofs.YtnepdfpooobmcaaGreatDoor
open Go.RowKit
theorem opsW_n {d : Ops} (h : opsW d) : ∀ o ∈ d, -9223372036854775808 ≤ o.n ∧ o.n ≤ 9223372036854775807 := fun o ho => by
  have h4 := (h o ho).2.2.2
  have e1 : IntKind.i64.min = -9223372036854775808 := rfl
  have e2 : IntKind.i64.max = 9223372036854775807 := rfl
  simp [Lit.wf, e1, e2] at h4
  omega
end Go.Proofs.YtnepdfpooobmcaaGreatDoor
