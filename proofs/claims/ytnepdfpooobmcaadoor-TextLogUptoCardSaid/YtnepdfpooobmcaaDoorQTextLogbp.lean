/- Contracts and lemmas for the proof of TextLog; each theorem states its own conditions. -/
import Derived.Test.YtnepdfpooobmcaaDoorQTextLogbi
import Derived.Test.YtnepdfpooobmcaaDoorQTextLogbk
import Derived.BigRegion
import Derived.Test.YtnepdfpooobmcaaDoorQTextLogax
import Derived.Test.YtnepdfpooobmcaaDoorQTextLogay
set_option linter.unusedVariables false
set_option linter.unusedSimpArgs false
/- Contracts and lemmas for the proofs of this seat; each theorem states its own conditions. -/
namespace Go.Proofs.YtnepdfpooobmcaaDoor
open Go.RowKit
/-! make([]int, n), make([]bool, n); stores into such rows -/
section
variable (w : World) {ops : Array Oper} {rest : List Oper} {o : Oper} {a : Act} {Q : Exit → Act → World → Prop}
end
end Go.Proofs.YtnepdfpooobmcaaDoor

/- Contracts and lemmas for the proofs of this seat; each theorem states its own conditions. -/
namespace Go.Proofs.YtnepdfpooobmcaaDoor
open Go.RowKit
variable {eB : Nat}
/-! merge.New -/
theorem getD_repl (n i : Nat) : (List.replicate n ([] : List Bat)).getD i [] = [] := by
  simp only [List.getD_eq_getElem?_getD]
  by_cases h : i < n
  · simp [h]
  · rw [List.getElem?_eq_none (by simp; omega)]; rfl
theorem getD_repl' (n i : Nat) : (List.replicate n ([] : Bat)).getD i [] = [] := by
  simp only [List.getD_eq_getElem?_getD]
  by_cases h : i < n
  · simp [h]
  · rw [List.getElem?_eq_none (by simp; omega)]; rfl
end Go.Proofs.YtnepdfpooobmcaaDoor

/- Contracts and lemmas for the proofs of this seat; each theorem states its own conditions. -/
namespace Go.Proofs.YtnepdfpooobmcaaDoor
open Go.RowKit
variable {eB : Nat}
/-! merge.Log -/
theorem getD_lt {α : Type} {l : List α} {d : α} {r : Nat} (h : r < l.length) : l.getD r d = l[r] := by simp [h]
/-- a log being laid -/
def LogB (B : Nat) (w : World) (X : List Ent) (v : Value) (wr : World) : Prop := ∃ es, EntsSt B wr es X ∧ wr.ownsRow w.heap.size 46 4 v X.length (cEn es) ∧ Ext w wr
def LogR (w : World) (X : List Ent) (v : Value) (wr : World) : Prop := LogB w.heap.size w X v wr
theorem LogB.ext {B : Nat} {w : World} {X : List Ent} {v : Value} {a b : World} (h : LogB B w X v a) (E : Ext a b) : LogB B w X v b := by
  obtain ⟨es, h1, h2, h3⟩ := h
  exact ⟨es, h1.ext E, own_ext h2 E, h3.trans E⟩
theorem LogB.form {B : Nat} {w : World} {X : List Ent} {v : Value} {a : World} (h : LogB B w X v a) : ∃ p c, v = .slice p X.length c := by
  obtain ⟨es, h1, h2, h3⟩ := h
  exact own_form h2
theorem LogB.E {B : Nat} {w : World} {X : List Ent} {v : Value} {a : World} (h : LogB B w X v a) : Ext w a := by
  obtain ⟨es, h1, h2, h3⟩ := h
  exact h3
theorem LogR.ext {w : World} {X : List Ent} {v : Value} {a b : World} (h : LogR w X v a) (E : Ext a b) : LogR w X v b := LogB.ext h E
theorem LogR.form {w : World} {X : List Ent} {v : Value} {a : World} (h : LogR w X v a) : ∃ p c, v = .slice p X.length c := LogB.form h
theorem LogR.E {w : World} {X : List Ent} {v : Value} {a : World} (h : LogR w X v a) : Ext w a := LogB.E h
theorem EntSt.grown {w w' : World} {row : Option Nat} {B n : Nat} {v : Value} {xs : List Value} (hg : w.grownBy w' v.ownBlock) (ho : w.ownsRow B 46 4 v n xs) {e : EV} {x : Ent} (h : EntSt eB w e x) : EntSt eB w' e x :=
  ⟨grown_own hg h.ops (own_own_ne h.ops ho (by decide)), h.im, grown_own hg h.cuts (own_own_ne h.cuts ho (by decide)), grown_own hg h.own (own_own_ne h.own ho (by decide))⟩
theorem log_step {B : Nat} {w w1 w2 : World} {X : List Ent} {es : List EV} {v v' : Value} {e : EV} {x : Ent} (h1 : EntsSt B w1 es X) (h2 : w1.ownsRow w.heap.size 46 4 v X.length (cEn es)) (h3 : Ext w w1) (he : EntSt B w1 e x)
    (ho : w2.ownsRow w.heap.size 46 4 v' (X.length + 1) (cEn es ++ evC e)) (hg : w1.grownBy w2 v.ownBlock) : LogB B w (X ++ [x]) v' w2 := by
  refine ⟨es ++ [e], EntsSt.snoc ⟨h1.1, fun j e' x' a b => (h1.2 j e' x' a b).grown (row := none) hg h2⟩ (he.grown (row := none) hg h2), ?_, h3.grown hg (fun k hk => own_ge h2 k hk)⟩
  rw [cEn_app, List.length_append]
  simpa [cEn] using ho
/-- the operations of any two lie apart -/
def ApE (es : List EV) : Prop := ∀ (i j : Nat) (e e' : EV), es[i]? = some e → es[j]? = some e' → i < j → ∀ k, e.1.ownBlock = some k → e'.1.ownBlock ≠ some k
theorem ApE.nil : ApE [] := fun i j e e' h => by simp at h
theorem ApE.snoc {es : List EV} {e : EV} (h : ApE es) (hf : ∀ (i : Nat) (e' : EV), es[i]? = some e' → ∀ k, e'.1.ownBlock = some k → e.1.ownBlock ≠ some k) : ApE (es ++ [e]) := by
  intro i j e1 e2 h1 h2 hij k hk
  by_cases hj : j < es.length
  · rw [List.getElem?_append_left (by omega)] at h1
    rw [List.getElem?_append_left hj] at h2
    exact h i j e1 e2 h1 h2 hij k hk
  · rw [List.getElem?_append_right (by omega)] at h2
    have : j - es.length = 0 := by
      rcases Nat.eq_zero_or_pos (j - es.length) with q | q
      · exact q
      · rw [List.getElem?_eq_none (by simp; omega)] at h2; cases h2
    rw [this] at h2
    simp only [List.getElem?_cons_zero, Option.some.injEq] at h2
    subst h2
    rw [List.getElem?_append_left (by omega)] at h1
    exact hf i e1 h1 k hk
/-- a log whose entries' operations lie apart -/
def LogRA (w : World) (X : List Ent) (v : Value) (wr : World) : Prop := ∃ es, EntsSt w.heap.size wr es X ∧ wr.ownsRow w.heap.size 46 4 v X.length (cEn es) ∧ Ext w wr ∧ ApE es
theorem LogRA.toR {w : World} {X : List Ent} {v : Value} {wr : World} (h : LogRA w X v wr) : LogR w X v wr := by
  obtain ⟨es, h1, h2, h3, _⟩ := h
  exact ⟨es, h1, h2, h3⟩
theorem LogRA.ext {w : World} {X : List Ent} {v : Value} {a b : World} (h : LogRA w X v a) (E : Ext a b) : LogRA w X v b := by
  obtain ⟨es, h1, h2, h3, h4⟩ := h
  exact ⟨es, h1.ext E, own_ext h2 E, h3.trans E, h4⟩
theorem LogRA.form {w : World} {X : List Ent} {v : Value} {a : World} (h : LogRA w X v a) : ∃ p c, v = .slice p X.length c := h.toR.form
theorem LogRA.E {w : World} {X : List Ent} {v : Value} {a : World} (h : LogRA w X v a) : Ext w a := h.toR.E
end Go.Proofs.YtnepdfpooobmcaaDoor

/- Contracts and lemmas for the proofs of this seat; each theorem states its own conditions. -/
namespace Go.Proofs.YtnepdfpooobmcaaDoor
open Go.RowKit
/-- what the row tells of a slice of slices of numbers, as mine -/
theorem segll_of_rows {w : World} {base : Nat} {x : Addr} {len cap : Nat} {A : Nat → Option Addr} {L C : Nat → Nat} {Z : Nat → List Int} (hl : len ≤ cap) (hm : cap ≤ maxLen)
    (h : ∀ r, r < cap → w.cell? (x.add r) = some (.slice (A r) (L r) (C r)) ∧ L r ≤ C r ∧ C r ≤ maxLen ∧ (Z r).length = C r ∧ (∀ n ∈ Z r, (Lit.int .i64 n).wf = true) ∧ (A r = none → C r = 0) ∧
        ∀ a', A r = some a' → base ≤ a'.block ∧ ∀ c, c < C r → w.cell? (a'.add c) = some (.int .i64 ((Z r).getD c 0))) :
    ∃ ls : List (List Int), SegLL w (.slice (some x) len cap) ls ∧ ls.length = len ∧ ∀ l ∈ ls, ∀ z ∈ l, -9223372036854775808 ≤ z ∧ z ≤ 9223372036854775807 := by
  have row : ∀ r, r < cap → Seg w (.slice (A r) (L r) (C r)) 1 ((Z r).take (L r)).length (cI ((Z r).take (L r))) ∧ ∀ z ∈ (Z r).take (L r), -9223372036854775808 ≤ z ∧ z ≤ 9223372036854775807 := fun r hr => by
    obtain ⟨h1, h2, h3, h4, h5, h6, h7⟩ := h r hr
    have hrow := seg_of_row (w := w) (a := A r) (len := L r) (cap := C r) (zs := Z r) (by
      cases ha : A r with
      | none =>
        have := h6 ha
        left
        exact ⟨rfl, by omega, this, List.eq_nil_of_length_eq_zero (by omega)⟩
      | some a' =>
        right
        exact ⟨a', rfl, h2, h3, h4, fun i hi => (h7 a' ha).2 i (by omega), h5⟩)
    exact ⟨hrow.1, hrow.2.1⟩
  refine ⟨(List.range len).map fun r => (Z r).take (L r), ⟨(List.range len).map fun r => .slice (A r) (L r) (C r), by simp, ⟨by simp, some x, cap, by simp, by simpa using hl, hm, fun hn => ?_⟩, fun i u m hu hm' => ?_⟩, by simp, fun l hl' z hz => ?_⟩
  · simp at hn
    have hs := cell_spot (h 0 (by omega)).1
    obtain ⟨b, off, sp⟩ := x
    have : sp = none := by simpa [Addr.add] using hs
    subst this
    refine ⟨b, off, rfl, fun j u hu => ?_⟩
    rw [← addr_add]
    obtain ⟨hj, e⟩ := List.getElem?_eq_some_iff.1 hu
    simp at hj e
    subst e
    exact (h j (by omega)).1
  · obtain ⟨hj, e⟩ := List.getElem?_eq_some_iff.1 hu
    obtain ⟨_, e'⟩ := List.getElem?_eq_some_iff.1 hm'
    simp at hj e e'
    subst e; subst e'
    exact (row i (by omega)).1
  · simp at hl'
    obtain ⟨r, hr, rfl⟩ := hl'
    exact (row r (by omega)).2 z hz
theorem segll_nil (w : World) : SegLL w (.slice none 0 0) [] := ⟨[], rfl, Seg.nil _ _, fun i u m h => by simp at h⟩
end Go.Proofs.YtnepdfpooobmcaaDoor
