/- Contracts and lemmas for the proof of TextSays; each theorem states its own conditions. -/
import Derived.Test.YtnepdfpooobmcaaGreatDoorQTextSaysbi
import Derived.Test.YtnepdfpooobmcaaGreatDoorQTextSaysaw
import Derived.Test.YtnepdfpooobmcaaGreatDoorQTextSaysax
import Derived.Test.YtnepdfpooobmcaaGreatDoorQTextSaysbf
import Derived.BigRegion
import Derived.Test.YtnepdfpooobmcaaGreatDoorQTextSaysan
import Derived.Test.YtnepdfpooobmcaaGreatDoorQTextSaysam
set_option linter.unusedVariables false
set_option linter.unusedSimpArgs false
/- Contracts and lemmas for the proofs of this seat; each theorem states its own conditions. -/
namespace Go.Proofs.YtnepdfpooobmcaaGreatDoor
open Go.RowKit
/-! text.ReadEntry, plain -/
/-- cut at the first c -/
def cutF (c : UInt8) : List UInt8 → Option (List UInt8 × List UInt8)
  | [] => none
  | b :: l => if b = c then some ([], l) else (cutF c l).map fun p => (b :: p.1, p.2)
theorem cutF_none {c : UInt8} : ∀ {l : List UInt8}, cutF c l = none → c ∉ l
  | [], _ => by simp
  | b :: l, h => by
    rw [cutF] at h
    split at h
    · cases h
    · rename_i hb
      have := cutF_none (l := l) (by simpa using h)
      simp only [List.mem_cons, not_or]
      exact ⟨fun e => hb e.symm, this⟩
theorem cutF_some {c : UInt8} : ∀ {l a r : List UInt8}, cutF c l = some (a, r) → l = a ++ c :: r ∧ c ∉ a
  | [], a, r, h => by cases h
  | b :: l, a, r, h => by
    rw [cutF] at h
    split at h
    · rename_i hb
      injection h with h; injection h with h1 h2
      subst h1; subst h2; subst hb
      exact ⟨rfl, by simp⟩
    · rename_i hb
      cases hc : cutF c l with
      | none => rw [hc] at h; cases h
      | some p =>
        rw [hc] at h
        injection h with h; injection h with h1 h2
        obtain ⟨e1, e2⟩ := cutF_some (l := l) (a := p.1) (r := p.2) hc
        subst h1; subst h2
        refine ⟨by rw [e1]; simp, ?_⟩
        simp only [List.mem_cons, not_or]
        exact ⟨fun e => hb e.symm, e2⟩
theorem ixb_no : ∀ {l : List UInt8} {c : UInt8}, c ∉ l → Lib.indexByte l c = -1
  | [], c, _ => rfl
  | b :: l, c, h => by
    simp only [List.mem_cons, not_or] at h
    have ih := ixb_no (l := l) h.2
    have hb : (b == c) = false := by simpa using fun e => h.1 (Eq.symm e)
    simp [Lib.indexByte, ih, hb]
theorem ixb_at : ∀ {a r : List UInt8} {c : UInt8}, c ∉ a → Lib.indexByte (a ++ c :: r) c = (a.length : Int)
  | [], r, c, _ => by simp [Lib.indexByte]
  | b :: a, r, c, h => by
    simp only [List.mem_cons, not_or] at h
    have ih := ixb_at (a := a) (r := r) h.2
    have hb : (b == c) = false := by simpa using fun e => h.1 (Eq.symm e)
    simp only [List.cons_append, Lib.indexByte, hb, ih, List.length_cons]
    have : (((a.length : Int)) == -1) = false := by simp
    simp [this]
end Go.Proofs.YtnepdfpooobmcaaGreatDoor

/- Contracts and lemmas for the proofs of this seat; each theorem states its own conditions. -/
namespace Go.Proofs.YtnepdfpooobmcaaGreatDoor
/-! entries as text: plain laws -/
end Go.Proofs.YtnepdfpooobmcaaGreatDoor

/- Contracts and lemmas for the proofs of this seat; each theorem states its own conditions. -/
namespace Go.Proofs.YtnepdfpooobmcaaGreatDoor
/-! a log as text, in plain lists -/
end Go.Proofs.YtnepdfpooobmcaaGreatDoor

/- Contracts and lemmas for the proofs of this seat; each theorem states its own conditions. -/
namespace Go.Proofs.YtnepdfpooobmcaaGreatDoor
/-! a log as text: what a prefix of it says; how a reading goes on -/
end Go.Proofs.YtnepdfpooobmcaaGreatDoor

/- Contracts and lemmas for the proofs of this seat; each theorem states its own conditions. -/
namespace Go.Proofs.YtnepdfpooobmcaaGreatDoor
open Go.RowKit
/-! make([]int, n), make([]bool, n); stores into such rows -/
section
variable (w : World) {ops : Array Oper} {rest : List Oper} {o : Oper} {a : Act} {Q : Exit → Act → World → Prop}
end
end Go.Proofs.YtnepdfpooobmcaaGreatDoor

/- Contracts and lemmas for the proofs of this seat; each theorem states its own conditions. -/
namespace Go.Proofs.YtnepdfpooobmcaaGreatDoor
open Go.RowKit
variable {eB : Nat}
/-! merge.New -/
end Go.Proofs.YtnepdfpooobmcaaGreatDoor

/- Contracts and lemmas for the proofs of this seat; each theorem states its own conditions. -/
namespace Go.Proofs.YtnepdfpooobmcaaGreatDoor
open Go.RowKit
variable {eB : Nat}
/-! merge.Log -/
/-- a log being laid -/
def LogB (B : Nat) (w : World) (X : List Ent) (v : Value) (wr : World) : Prop := ∃ es, EntsSt B wr es X ∧ wr.ownsRow w.heap.size 45 4 v X.length (cEn es) ∧ Ext w wr
def LogR (w : World) (X : List Ent) (v : Value) (wr : World) : Prop := LogB w.heap.size w X v wr
theorem LogB.ext {B : Nat} {w : World} {X : List Ent} {v : Value} {a b : World} (h : LogB B w X v a) (E : Ext a b) : LogB B w X v b := by
  obtain ⟨es, h1, h2, h3⟩ := h
  exact ⟨es, h1.ext E, own_ext h2 E, h3.trans E⟩
theorem LogB.E {B : Nat} {w : World} {X : List Ent} {v : Value} {a : World} (h : LogB B w X v a) : Ext w a := by
  obtain ⟨es, h1, h2, h3⟩ := h
  exact h3
theorem LogR.ext {w : World} {X : List Ent} {v : Value} {a b : World} (h : LogR w X v a) (E : Ext a b) : LogR w X v b := LogB.ext h E
theorem LogR.E {w : World} {X : List Ent} {v : Value} {a : World} (h : LogR w X v a) : Ext w a := LogB.E h
theorem EntSt.grown {w w' : World} {row : Option Nat} {B n : Nat} {v : Value} {xs : List Value} (hg : w.grownBy w' v.ownBlock) (ho : w.ownsRow B 45 4 v n xs) {e : EV} {x : Ent} (h : EntSt eB w e x) : EntSt eB w' e x :=
  ⟨grown_own hg h.ops (own_own_ne h.ops ho (by decide)), h.im, grown_own hg h.cuts (own_own_ne h.cuts ho (by decide)), grown_own hg h.own (own_own_ne h.own ho (by decide))⟩
/-- the operations of any two lie apart -/
def ApE (es : List EV) : Prop := ∀ (i j : Nat) (e e' : EV), es[i]? = some e → es[j]? = some e' → i < j → ∀ k, e.1.ownBlock = some k → e'.1.ownBlock ≠ some k
theorem ApE.nil : ApE [] := fun i j e e' h => by simp at h
/-- a log whose entries' operations lie apart -/
def LogRA (w : World) (X : List Ent) (v : Value) (wr : World) : Prop := ∃ es, EntsSt w.heap.size wr es X ∧ wr.ownsRow w.heap.size 45 4 v X.length (cEn es) ∧ Ext w wr ∧ ApE es
theorem LogRA.toR {w : World} {X : List Ent} {v : Value} {wr : World} (h : LogRA w X v wr) : LogR w X v wr := by
  obtain ⟨es, h1, h2, h3, _⟩ := h
  exact ⟨es, h1, h2, h3⟩
theorem LogRA.ext {w : World} {X : List Ent} {v : Value} {a b : World} (h : LogRA w X v a) (E : Ext a b) : LogRA w X v b := by
  obtain ⟨es, h1, h2, h3, h4⟩ := h
  exact ⟨es, h1.ext E, own_ext h2 E, h3.trans E, h4⟩
theorem LogRA.E {w : World} {X : List Ent} {v : Value} {a : World} (h : LogRA w X v a) : Ext w a := h.toR.E
end Go.Proofs.YtnepdfpooobmcaaGreatDoor

/- Contracts and lemmas for the proofs of this seat; each theorem states its own conditions. -/
namespace Go.Proofs.YtnepdfpooobmcaaGreatDoor
open Go.RowKit
end Go.Proofs.YtnepdfpooobmcaaGreatDoor

/- Contracts and lemmas for the proofs of this seat; each theorem states its own conditions. -/
namespace Go.Proofs.YtnepdfpooobmcaaGreatDoor
open Go.RowKit
/-! rokeep.entries, roref.SameEntry -/
theorem LogB.base {w w1 : World} {X : List Ent} {v : Value} {a : World} (h : LogB w.heap.size w1 X v a) (E : Ext w w1) : LogR w X v a := by
  obtain ⟨es, h1, h2, h3⟩ := h
  exact ⟨es, h1, own_base h2 E.size', E.trans h3⟩
end Go.Proofs.YtnepdfpooobmcaaGreatDoor

/- Contracts and lemmas for the proofs of this seat; each theorem states its own conditions. -/
namespace Go.Proofs.YtnepdfpooobmcaaGreatDoor
open Go.RowKit
/-! a log told as text -/
end Go.Proofs.YtnepdfpooobmcaaGreatDoor

/- Contracts and lemmas for the proofs of this seat; each theorem states its own conditions. -/
namespace Go.Proofs.YtnepdfpooobmcaaGreatDoor
open Go.RowKit
/-! text.ReadEntry, its ways out (printed by py/gen_tyg.py) -/
end Go.Proofs.YtnepdfpooobmcaaGreatDoor

/- Contracts and lemmas for the proofs of this seat; each theorem states its own conditions. -/
namespace Go.Proofs.YtnepdfpooobmcaaGreatDoor
open Go.RowKit
/-! text.ReadEntry: its contract -/
theorem ext_mid {s : ByteArray} {x m y : List UInt8} (e : s.data.toList = x ++ m ++ y) {i j : Nat} (hi : i = x.length) (hj : j = x.length + m.length) : (s.extract i j).data.toList = m := by
  subst hi; subst hj
  have : (s.extract x.length (x.length + m.length)).data.toList = (s.data.toList.take (x.length + m.length)).drop x.length := by
    rw [ByteArray.data_extract, Array.toList_extract, List.extract_eq_take_drop, List.take_drop]
    congr 2
    omega
  rw [this, e, List.append_assoc, ← List.append_assoc, List.take_left' (by simp), List.drop_left]
end Go.Proofs.YtnepdfpooobmcaaGreatDoor

/- Contracts and lemmas for the proofs of this seat; each theorem states its own conditions. -/
namespace Go.Proofs.YtnepdfpooobmcaaGreatDoor
open Go.RowKit
/-! text.Log -/
end Go.Proofs.YtnepdfpooobmcaaGreatDoor
