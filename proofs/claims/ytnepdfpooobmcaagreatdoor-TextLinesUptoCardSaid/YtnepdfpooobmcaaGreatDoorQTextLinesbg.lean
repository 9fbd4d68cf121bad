/- Contracts and lemmas for the proof of TextLines; each theorem states its own conditions. -/
import Derived.Test.YtnepdfpooobmcaaGreatDoorQTextLinesbf
import Derived.Test.YtnepdfpooobmcaaGreatDoorQTextLinesbb
import Derived.Test.YtnepdfpooobmcaaGreatDoorQTextLinesbe
import Derived.BigRegion
import Derived.Test.YtnepdfpooobmcaaGreatDoorQTextLinesat
import Derived.Test.YtnepdfpooobmcaaGreatDoorQTextLinesan
import Derived.Test.YtnepdfpooobmcaaGreatDoorQTextLinesam
set_option linter.unusedVariables false
set_option linter.unusedSimpArgs false
/- Contracts and lemmas for the proofs of this seat; each theorem states its own conditions. -/
namespace Go.Proofs.YtnepdfpooobmcaaGreatDoor
/-! a log as text, in plain lists -/
/-- P40, over at most so many lines -/
def lgRd : Nat → List UInt8 → Int × List Ent × Nat
  | 0, _ => (0, [], 0)
  | f + 1, l =>
    if l = [] then (0, [], 0) else if (lnRd l).1 = 7 then (0, [], 0) else if (lnRd l).1 ≠ 0 then ((lnRd l).1, [], 0)
    else if (lgRd f (l.drop (lnRd l).2.2)).1 = 0 then (0, (lnRd l).2.1 :: (lgRd f (l.drop (lnRd l).2.2)).2.1, (lnRd l).2.2 + (lgRd f (l.drop (lnRd l).2.2)).2.2) else ((lgRd f (l.drop (lnRd l).2.2)).1, [], 0)
end Go.Proofs.YtnepdfpooobmcaaGreatDoor

/- Contracts and lemmas for the proofs of this seat; each theorem states its own conditions. -/
namespace Go.Proofs.YtnepdfpooobmcaaGreatDoor
/-! a log as text: what a prefix of it says; how a reading goes on -/
theorem lnRd_len {l : List UInt8} (h : (lnRd l).1 = 0) : 1 ≤ (lnRd l).2.2 ∧ (lnRd l).2.2 ≤ l.length := by
  obtain ⟨b, more, rfl, hb, hr, _⟩ := lnRd_ok h
  rw [lnRd_line hb more hr]
  simp only [List.length_append]
  have : (lineT b).length ≠ 0 := by simp [lineT]
  omega
/-- what was read, and what the rest says -/
def lgAcc (X : List Ent) (u : Nat) (r : Int × List Ent × Nat) : Int × List Ent × Nat := if r.1 = 0 then (0, X ++ r.2.1, u + r.2.2) else (r.1, [], 0)
theorem lgAcc_nil (r : Int × List Ent × Nat) (h : r.1 ≠ 0 → r = (r.1, [], 0)) : lgAcc [] 0 r = r := by
  obtain ⟨a, b, c⟩ := r
  unfold lgAcc
  split
  · rename_i h0
    simp only at h0
    subst h0
    simp
  · rename_i h0
    exact (h h0).symm
theorem lgRd_err : ∀ (f : Nat) (l : List UInt8), (lgRd f l).1 ≠ 0 → lgRd f l = ((lgRd f l).1, [], 0)
  | 0, l, h => by simp [lgRd] at h
  | f + 1, l, h => by
    rw [lgRd] at h ⊢
    split at h
    · simp at h
    · rename_i h1
      rw [if_neg h1]
      split at h
      · simp at h
      · rename_i h2
        rw [if_neg h2]
        split at h
        · rename_i h3
          rw [if_pos h3]
        · rename_i h3
          rw [if_neg h3]
          split at h
          · simp at h
          · rename_i h4
            rw [if_neg h4]
theorem lgRd_end {f : Nat} {l : List UInt8} (h : l = [] ∨ (lnRd l).1 = 7) : lgRd (f + 1) l = (0, [], 0) := by
  rw [lgRd]
  by_cases h0 : l = []
  · rw [if_pos h0]
  · rw [if_neg h0, if_pos (h.resolve_left h0)]
theorem lgRd_bad {f : Nat} {l : List UInt8} (h0 : l ≠ []) (h7 : (lnRd l).1 ≠ 7) (h : (lnRd l).1 ≠ 0) : lgRd (f + 1) l = ((lnRd l).1, [], 0) := by
  rw [lgRd, if_neg h0, if_neg h7, if_pos h]
theorem lgAcc_step {X : List Ent} {u f : Nat} {l : List UInt8} (h0 : l ≠ []) (h : (lnRd l).1 = 0) :
    lgAcc X u (lgRd (f + 1) l) = lgAcc (X ++ [(lnRd l).2.1]) (u + (lnRd l).2.2) (lgRd f (l.drop (lnRd l).2.2)) := by
  have h7 : (lnRd l).1 ≠ 7 := by rw [h]; decide
  rw [lgRd, if_neg h0, if_neg h7, if_neg (by simp [h])]
  unfold lgAcc
  by_cases hr : (lgRd f (l.drop (lnRd l).2.2)).1 = 0
  · rw [if_pos hr, if_pos hr, if_pos rfl]
    simp [Nat.add_assoc]
  · rw [if_neg hr, if_neg hr, if_neg hr]
/-- a whole log read -/
def lgAll (l : List UInt8) : Int × List Ent × Nat := if 20000 < l.length then (2, [], 0) else lgRd (l.length + 1) l
end Go.Proofs.YtnepdfpooobmcaaGreatDoor

/- Contracts and lemmas for the proofs of this seat; each theorem states its own conditions. -/
namespace Go.Proofs.YtnepdfpooobmcaaGreatDoor
open Go.RowKit
/-! make([]int, n), make([]bool, n); stores into such rows -/
section
variable (w : World) {ops : Array Oper} {rest : List Oper} {o : Oper} {a : Act} {Q : Exit → Act → World → Prop}
end
end Go.Proofs.YtnepdfpooobmcaaGreatDoor

/- Contracts and lemmas for the proofs of this seat; each theorem states its own conditions. -/
namespace Go.Proofs.YtnepdfpooobmcaaGreatDoor
open Go.RowKit
variable {eB : Nat}
/-! merge.New -/
end Go.Proofs.YtnepdfpooobmcaaGreatDoor

/- Contracts and lemmas for the proofs of this seat; each theorem states its own conditions. -/
namespace Go.Proofs.YtnepdfpooobmcaaGreatDoor
open Go.RowKit
variable {eB : Nat}
/-! merge.Log -/
theorem getD_lt {α : Type} {l : List α} {d : α} {r : Nat} (h : r < l.length) : l.getD r d = l[r] := by simp [h]
/-- a log being laid -/
def LogB (B : Nat) (w : World) (X : List Ent) (v : Value) (wr : World) : Prop := ∃ es, EntsSt B wr es X ∧ wr.ownsRow w.heap.size 45 4 v X.length (cEn es) ∧ Ext w wr
def LogR (w : World) (X : List Ent) (v : Value) (wr : World) : Prop := LogB w.heap.size w X v wr
theorem LogB.ext {B : Nat} {w : World} {X : List Ent} {v : Value} {a b : World} (h : LogB B w X v a) (E : Ext a b) : LogB B w X v b := by
  obtain ⟨es, h1, h2, h3⟩ := h
  exact ⟨es, h1.ext E, own_ext h2 E, h3.trans E⟩
theorem LogB.form {B : Nat} {w : World} {X : List Ent} {v : Value} {a : World} (h : LogB B w X v a) : ∃ p c, v = .slice p X.length c := by
  obtain ⟨es, h1, h2, h3⟩ := h
  exact own_form h2
theorem LogB.E {B : Nat} {w : World} {X : List Ent} {v : Value} {a : World} (h : LogB B w X v a) : Ext w a := by
  obtain ⟨es, h1, h2, h3⟩ := h
  exact h3
theorem LogR.ext {w : World} {X : List Ent} {v : Value} {a b : World} (h : LogR w X v a) (E : Ext a b) : LogR w X v b := LogB.ext h E
theorem LogR.form {w : World} {X : List Ent} {v : Value} {a : World} (h : LogR w X v a) : ∃ p c, v = .slice p X.length c := LogB.form h
theorem LogR.E {w : World} {X : List Ent} {v : Value} {a : World} (h : LogR w X v a) : Ext w a := LogB.E h
theorem EntSt.grown {w w' : World} {row : Option Nat} {B n : Nat} {v : Value} {xs : List Value} (hg : w.grownBy w' v.ownBlock) (ho : w.ownsRow B 45 4 v n xs) {e : EV} {x : Ent} (h : EntSt eB w e x) : EntSt eB w' e x :=
  ⟨grown_own hg h.ops (own_own_ne h.ops ho (by decide)), h.im, grown_own hg h.cuts (own_own_ne h.cuts ho (by decide)), grown_own hg h.own (own_own_ne h.own ho (by decide))⟩
theorem log_step {B : Nat} {w w1 w2 : World} {X : List Ent} {es : List EV} {v v' : Value} {e : EV} {x : Ent} (h1 : EntsSt B w1 es X) (h2 : w1.ownsRow w.heap.size 45 4 v X.length (cEn es)) (h3 : Ext w w1) (he : EntSt B w1 e x)
    (ho : w2.ownsRow w.heap.size 45 4 v' (X.length + 1) (cEn es ++ evC e)) (hg : w1.grownBy w2 v.ownBlock) : LogB B w (X ++ [x]) v' w2 := by
  refine ⟨es ++ [e], EntsSt.snoc ⟨h1.1, fun j e' x' a b => (h1.2 j e' x' a b).grown (row := none) hg h2⟩ (he.grown (row := none) hg h2), ?_, h3.grown hg (fun k hk => own_ge h2 k hk)⟩
  rw [cEn_app, List.length_append]
  simpa [cEn] using ho
/-- the operations of any two lie apart -/
def ApE (es : List EV) : Prop := ∀ (i j : Nat) (e e' : EV), es[i]? = some e → es[j]? = some e' → i < j → ∀ k, e.1.ownBlock = some k → e'.1.ownBlock ≠ some k
theorem ApE.nil : ApE [] := fun i j e e' h => by simp at h
theorem ApE.snoc {es : List EV} {e : EV} (h : ApE es) (hf : ∀ (i : Nat) (e' : EV), es[i]? = some e' → ∀ k, e'.1.ownBlock = some k → e.1.ownBlock ≠ some k) : ApE (es ++ [e]) := by
  intro i j e1 e2 h1 h2 hij k hk
  by_cases hj : j < es.length
  · rw [List.getElem?_append_left (by omega)] at h1
    rw [List.getElem?_append_left hj] at h2
    exact h i j e1 e2 h1 h2 hij k hk
  · rw [List.getElem?_append_right (by omega)] at h2
    have : j - es.length = 0 := by
      rcases Nat.eq_zero_or_pos (j - es.length) with q | q
      · exact q
      · rw [List.getElem?_eq_none (by simp; omega)] at h2; cases h2
    rw [this] at h2
    simp only [List.getElem?_cons_zero, Option.some.injEq] at h2
    subst h2
    rw [List.getElem?_append_left (by omega)] at h1
    exact hf i e1 h1 k hk
/-- a log whose entries' operations lie apart -/
def LogRA (w : World) (X : List Ent) (v : Value) (wr : World) : Prop := ∃ es, EntsSt w.heap.size wr es X ∧ wr.ownsRow w.heap.size 45 4 v X.length (cEn es) ∧ Ext w wr ∧ ApE es
theorem LogRA.toR {w : World} {X : List Ent} {v : Value} {wr : World} (h : LogRA w X v wr) : LogR w X v wr := by
  obtain ⟨es, h1, h2, h3, _⟩ := h
  exact ⟨es, h1, h2, h3⟩
theorem LogRA.ext {w : World} {X : List Ent} {v : Value} {a b : World} (h : LogRA w X v a) (E : Ext a b) : LogRA w X v b := by
  obtain ⟨es, h1, h2, h3, h4⟩ := h
  exact ⟨es, h1.ext E, own_ext h2 E, h3.trans E, h4⟩
theorem LogRA.form {w : World} {X : List Ent} {v : Value} {a : World} (h : LogRA w X v a) : ∃ p c, v = .slice p X.length c := h.toR.form
theorem LogRA.E {w : World} {X : List Ent} {v : Value} {a : World} (h : LogRA w X v a) : Ext w a := h.toR.E
end Go.Proofs.YtnepdfpooobmcaaGreatDoor

/- Contracts and lemmas for the proofs of this seat; each theorem states its own conditions. -/
namespace Go.Proofs.YtnepdfpooobmcaaGreatDoor
open Go.RowKit
end Go.Proofs.YtnepdfpooobmcaaGreatDoor

/- Contracts and lemmas for the proofs of this seat; each theorem states its own conditions. -/
namespace Go.Proofs.YtnepdfpooobmcaaGreatDoor
open Go.RowKit
/-! rokeep.entries, roref.SameEntry -/
theorem LogB.base {w w1 : World} {X : List Ent} {v : Value} {a : World} (h : LogB w.heap.size w1 X v a) (E : Ext w w1) : LogR w X v a := by
  obtain ⟨es, h1, h2, h3⟩ := h
  exact ⟨es, h1, own_base h2 E.size', E.trans h3⟩
end Go.Proofs.YtnepdfpooobmcaaGreatDoor

/- Contracts and lemmas for the proofs of this seat; each theorem states its own conditions. -/
namespace Go.Proofs.YtnepdfpooobmcaaGreatDoor
open Go.RowKit
/-! a log told as text -/
end Go.Proofs.YtnepdfpooobmcaaGreatDoor
