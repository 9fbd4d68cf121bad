/- Contracts and lemmas for the proof of MergePlays; each theorem states its own conditions. -/
import Derived.Test.YtddghaoejnbkaaaDoorRows
import Derived.Test.YtddghaoejnbkaaaDoorQMergePlaysal
import Derived.Test.YtddghaoejnbkaaaDoorQMergePlaysbn
import Derived.Deep.SlicePairs
import Derived.Test.YtddghaoejnbkaaaDoorQMergePlaysbb
import Derived.Deep.Strs
import Derived.Deep.Matrix
import Derived.Lib.SmallJoins
set_option linter.unusedVariables false
set_option linter.unusedSimpArgs false
/- Contracts and lemmas for the proofs of this seat; each theorem states its own conditions. -/
namespace Go.Proofs.YtddghaoejnbkaaaDoor
open Go.RowKit Go.Deep
/-! what a row tells of a slice of pairs -/
theorem bulk_one {H : Type} (d : DataW H) : 1 ≤ Rows.uptoBulk d := by
  cases d with
  | lit l => cases l <;> simp [Rows.uptoBulk]
  | nil => simp [Rows.uptoBulk]
  | ptr d => simp [Rows.uptoBulk]
  | slice elems spare => simp [Rows.uptoBulk]
  | agg parts => simp [Rows.uptoBulk]
  | iface t d => simp [Rows.uptoBulk]
  | map entries => simp [Rows.uptoBulk]
  | held h => simp [Rows.uptoBulk]
theorem bulk_map {H : Type} {α : Type} {c : Nat} {f : α → DataW H} : ∀ {l : List α}, (∀ a ∈ l, c ≤ Rows.uptoBulk (f a)) → c * l.length ≤ Rows.uptoBulkAll (l.map f)
  | [], _ => by simp [Rows.uptoBulkAll]
  | a :: l, h => by
    have h1 := h a (by simp)
    have h2 := bulk_map (l := l) fun b hb => h b (by simp [hb])
    simp only [List.map_cons, Rows.uptoBulkAll, List.length_cons, Nat.mul_succ]
    omega
theorem pick_fun {α : Type} [Inhabited α] {p : Nat → α → Prop} {n : Nat} (h : ∀ i, i < n → ∃ a, p i a) : ∃ f : Nat → α, ∀ i, i < n → p i (f i) :=
  ⟨fun i => if hi : i < n then Classical.choose (h i hi) else default, fun i hi => by simp only [hi, dif_pos]; exact Classical.choose_spec (h i hi)⟩
end Go.Proofs.YtddghaoejnbkaaaDoor

/- Contracts and lemmas for the proofs of this seat; each theorem states its own conditions. -/
namespace Go.Proofs.YtddghaoejnbkaaaDoor
open Go.RowKit Go.Deep Go.WideShapes Go.ChangeShapes
/-! what a row tells of numbers, of rows of numbers, of names and of a map -/
def StrW (l : List ByteArray) : Prop := ∀ s ∈ l, s.size ≤ maxLen
def IntW (l : List Int) : Prop := ∀ z ∈ l, -9223372036854775808 ≤ z ∧ z ≤ 9223372036854775807
theorem segI_of_trod {H : Type} {enc : TypeId × Value → H} {W : World} {base : Nat} {held : Bool} {fuel : Nat} {v : Value} {x : DataW H × List MemPlace}
    (h : DataW.trod enc Tryd.prog W base (fun _ => true) held fuel 29 [v] = some x) :
    ∃ a len cap, ∃ l : List Int, v = .slice a len cap ∧ Seg W (.slice a len cap) 1 l.length (cI l) ∧ IntW l ∧ l.length + 1 ≤ Rows.uptoBulk x.1 := by
  rcases open_ints Tryd.underlying29 Tryd.underlying3 (by kernel_rfl) h with ⟨hcs, rfl⟩ | ⟨ad, len, cap, zs, hcs, _, hl, hm, hz, rfl, hcell, hwz⟩
  · injection hcs with hcs _
    exact ⟨none, 0, 0, [], hcs, Seg.nil _ _, by simp [IntW], by simp [Rows.uptoBulk]⟩
  · injection hcs with hcs _
    simp only [if_true] at hz
    obtain ⟨s1, s2, s3⟩ := seg_of_row (w := W) (a := some ad) (len := len) (cap := cap) (zs := zs) (.inr ⟨ad, rfl, hl, hm, hz, hcell, hwz⟩)
    refine ⟨some ad, len, cap, zs.take len, hcs, s1, s2, ?_⟩
    have hb := bulk_map (c := 1) (H := H) (f := fun n : Int => DataW.lit (.int .i64 n)) (l := zs.take len) (fun i _ => bulk_one _)
    simp only [Rows.uptoBulk, lits]
    omega
theorem segS_of_trod {H : Type} {enc : TypeId × Value → H} {W : World} {base : Nat} {held : Bool} {fuel : Nat} {v : Value} {x : DataW H × List MemPlace}
    (h : DataW.trod enc Tryd.prog W base (fun _ => true) held fuel 37 [v] = some x) :
    ∃ a len cap, ∃ l : List ByteArray, v = .slice a len cap ∧ Seg W (.slice a len cap) 1 l.length (cS l) ∧ StrW l ∧ l.length + 1 ≤ Rows.uptoBulk x.1 := by
  rcases open_strs Tryd.underlying37 Tryd.underlying9 (by kernel_rfl) h with ⟨hcs, rfl⟩ | ⟨ad, len, cap, m, Sx, hcs, _, hl, hm, hmm, rfl, hx⟩
  · injection hcs with hcs _
    exact ⟨none, 0, 0, [], hcs, Seg.nil _ _, by simp [StrW], by simp [Rows.uptoBulk]⟩
  · injection hcs with hcs _
    simp only [if_true] at hmm
    refine ⟨some ad, len, cap, (List.range len).map Sx, hcs, ⟨by simp [cS], some ad, cap, by simp, by simpa using hl, hm, fun hn => ?_⟩, ?_, ?_⟩
    · simp at hn
      have hs := cell_spot (hx 0 (by omega)).1
      obtain ⟨b, off, sp⟩ := ad
      have : sp = none := by simpa [Addr.add] using hs
      subst this
      refine ⟨b, off, rfl, fun j u hu => ?_⟩
      rw [← addr_add]
      obtain ⟨hj, e⟩ := List.getElem?_eq_some_iff.1 hu
      simp [cS] at hj e
      subst e
      exact (hx j (by omega)).1
    · intro s hs
      simp at hs
      obtain ⟨i, hi, rfl⟩ := hs
      exact (hx i (by omega)).2
    · have hb := bulk_map (c := 1) (H := H) (f := fun i => DataW.lit (.string (Sx i).data.toList)) (l := List.range len) (fun i _ => bulk_one _)
      simp only [List.length_range] at hb
      simp only [List.length_map, List.length_range, Rows.uptoBulk]
      omega
set_option maxRecDepth 10000 in
theorem map_of_trod {H : Type} {enc : TypeId × Value → H} {W : World} {base : Nat} {held : Bool} {fuel : Nat} {cs : List Value} {x : DataW H × List MemPlace}
    (h : DataW.trod enc Tryd.prog W base (fun _ => true) held fuel 39 cs = some x) :
    ∃ v1 v2, ∃ C : List ByteArray, ∃ O : List Int, cs = [v1, v2] ∧ IsMap W (.agg #[v1, v2]) C O ∧ StrW C ∧ IntW O ∧ C.length + O.length + 3 ≤ Rows.uptoBulk x.1 := by
  have kd : Tryd.prog.cellsOf 39 = 2 := by kernel_rfl
  have k1 : Tryd.prog.cellsOf 37 = 1 := by kernel_rfl
  have k2 : Tryd.prog.cellsOf 29 = 1 := by kernel_rfl
  obtain ⟨y0, y1, n, rfl, hl, h0, h1⟩ := trod_struct2 Tryd.underlying39 h
  rw [kd] at hl
  match cs, hl with
  | [c1, c2], _ =>
    simp [k1, k2] at h0 h1
    obtain ⟨a, len, cap, C, e1, q1, q2, q3⟩ := segS_of_trod h0
    obtain ⟨a', len', cap', O, e2, r1, r2, r3⟩ := segI_of_trod h1
    refine ⟨c1, c2, C, O, rfl, ⟨c1, c2, rfl, by rw [e1]; exact q1, by rw [e2]; exact r1⟩, q2, r2, ?_⟩
    simp only [Rows.uptoBulk, Rows.uptoBulkAll]
    omega
set_option maxRecDepth 10000 in
theorem segLL_of_trod {H : Type} {enc : TypeId × Value → H} {W : World} {base : Nat} {held : Bool} {fuel : Nat} {a : Option Addr} {len cap : Nat} {x : DataW H × List MemPlace}
    (h : DataW.trod enc Tryd.prog W base (fun _ => true) held fuel 22 [.slice a len cap] = some x) :
    ∃ ls : List (List Int), SegLL W (.slice a len cap) ls ∧ (∀ l ∈ ls, IntW l) ∧ ls.length + 1 ≤ Rows.uptoBulk x.1 := by
  rcases open_int_rows Tryd.underlying22 Tryd.underlying29 Tryd.underlying3 (by kernel_rfl) (by kernel_rfl) h with ⟨hcs, rfl⟩ | ⟨ad, len', cap', A, L, C, Z, hcs, _, hl, hm, rfl, hx⟩
  · injection hcs with hcs _
    injection hcs with e1 e2 e3
    subst e1; subst e2; subst e3
    exact ⟨[], segll_nil _, by simp, by simp [Rows.uptoBulk]⟩
  · injection hcs with hcs _
    injection hcs with e1 e2 e3
    subst e1; subst e2; subst e3
    obtain ⟨ls, g1, g2, g3⟩ := segll_of_rows hl hm hx
    refine ⟨ls, g1, g3, ?_⟩
    have hb := bulk_map (c := 1) (H := H) (f := fun r => intRow .i64 (A r) (L r) (Z r)) (l := List.range len) (fun i _ => bulk_one _)
    simp only [List.length_range] at hb
    simp only [Rows.uptoBulk]
    omega
end Go.Proofs.YtddghaoejnbkaaaDoor
