/- Contracts and lemmas for the proof of PlanPlays; each theorem states its own conditions. -/
import Derived.Test.YtghemmmkbpfdhaaGreatDoorQPlanPlaysbu
import Derived.Test.YtghemmmkbpfdhaaGreatDoorQPlanPlaysbf
import Derived.Test.YtghemmmkbpfdhaaGreatDoorQPlanPlaysbn
import Derived.Test.YtghemmmkbpfdhaaGreatDoorQPlanPlaysbt
import Derived.Deep.RegionHeld3
set_option linter.unusedVariables false
set_option linter.unusedSimpArgs false
/- Contracts and lemmas for the proofs of this seat; each theorem states its own conditions. -/
namespace Go.Proofs.YtghemmmkbpfdhaaGreatDoor
open Go.RowKit Go.Maps
/-! the document's Serial -/
/-- whether each may be done -/
def serO (v : Vls) : List Ops → List Bool
  | [] => []
  | d :: ds => okV v d :: serO (stepV v d) ds
theorem serV_app (v : Vls) (a b : List Ops) : serV v (a ++ b) = serV (serV v a) b ∧ serO v (a ++ b) = serO v a ++ serO (serV v a) b := by
  induction a generalizing v with
  | nil => exact ⟨rfl, rfl⟩
  | cons d a ih => simp only [List.cons_append, serV, serO, (ih _).1, (ih _).2]; simp
theorem serV_take {v : Vls} {D : List Ops} {k : Nat} (hk : k < D.length) : serV v (D.take (k + 1)) = stepV (serV v (D.take k)) D[k] ∧ serO v (D.take (k + 1)) = serO v (D.take k) ++ [okV (serV v (D.take k)) D[k]] := by
  rw [List.take_succ_eq_append_getElem hk]
  obtain ⟨a, b⟩ := serV_app v (D.take k) [D[k]]
  exact ⟨by rw [a]; rfl, by rw [b]; rfl⟩
theorem serO_len (v : Vls) (D : List Ops) : (serO v D).length = D.length := by
  induction D generalizing v with
  | nil => rfl
  | cons d D ih => simp [serO, ih]
/-- the same of stores -/
theorem serv_val {D : List Ops} (hd : ∀ d ∈ D, DeedOk d) : ∀ {l : Prs}, StoreOk l → valP (serS l D) = serV (valP l) D ∧ serB l D = serO (valP l) D := by
  induction D with
  | nil => intro l h; exact ⟨rfl, rfl⟩
  | cons d D ih =>
    intro l h
    obtain ⟨a, b, c⟩ := run_val h (hd d (by simp)).ops
    obtain ⟨e, g⟩ := ih (fun q hq => hd q (by simp [hq])) a
    exact ⟨by rw [serS, serV, e, b], by rw [serB, serO, g, b, c]⟩
/-- a map's block is no row's -/
theorem map_row_ne {P : Program} {k : TypeId} {R : Value → Option (DU × List MemPlace)} {w : World} {b n : Nat} {D : DU} (h : w.ownsMap P k R b n D) {B e sz n' : Nat} {v : Value} {xs : List Value} (h' : w.ownsRow B e sz v n' xs) : some b ≠ v.ownBlock := by
  obtain ⟨es, clock, hb, _⟩ := h
  rcases h'.2 with ⟨rfl, _⟩ | ⟨g, cap, cur, rfl, _, hg, _⟩
  · simp [Value.ownBlock]
  · intro q
    simp [Value.ownBlock] at q
    subst q
    rw [hb] at hg
    cases hg
end Go.Proofs.YtghemmmkbpfdhaaGreatDoor

/- Contracts and lemmas for the proofs of this seat; each theorem states its own conditions. -/
namespace Go.Proofs.YtghemmmkbpfdhaaGreatDoor
open Go.RowKit Go.Maps
/-! the document's Play -/
theorem set_ext {w w' : World} {p : Addr} {u : Value} (h : Ext w w') : Ext (w.setCell p u) (w'.setCell p u) := by
  refine ⟨by simpa [World.setCell] using h.os, by simpa [World.setCell] using h.tape, by simpa [World.setCell] using h.output, by simpa [World.setCell] using h.size, fun k hk => ?_⟩
  have hk' : k < w.heap.size := by simpa [World.setCell] using hk
  have hb := h.block k hk'
  by_cases e : k = p.block
  · subst e
    simp [World.setCell, Array.getElem?_modify, hb]
  · rw [Below.heap_setCell _ _ _ _ e, Below.heap_setCell _ _ _ _ e]; exact hb
/-- kept, whether the cell was set or not -/
def Kep (w : World) (p : Addr) (u : Value) (w' : World) : Prop := Ext w w' ∨ Ext (w.setCell p u) w'
theorem Kep.start {w w' : World} {p : Addr} {u : Value} (h : Ext w w') : Kep w p u w' := .inl h
theorem Kep.ext {w a b : World} {p : Addr} {u : Value} (h : Kep w p u a) (E : Ext a b) : Kep w p u b := by
  rcases h with h | h
  · exact .inl (h.trans E)
  · exact .inr (h.trans E)
theorem set_twice {w : World} {p : Addr} {u : Value} : (w.setCell p u).setCell p u = w.setCell p u := by
  simp only [World.setCell]
  congr 1
  apply Array.ext
  · simp
  · intro i h1 h2
    simp only [Array.getElem_modify]
    split
    · generalize w.heap[i]'(by simpa using h1) = o
      cases o with
      | cells c e f => cases hs : p.spot <;> simp
      | _ => rfl
    · rfl
theorem Kep.set {w a : World} {p : Addr} {u : Value} (h : Kep w p u a) : Ext (w.setCell p u) (a.setCell p u) := by
  rcases h with h | h
  · exact set_ext h
  · have := set_ext (p := p) (u := u) h
    rw [set_twice] at this; exact this
theorem kepE {w a b : World} {p a1 a2 : Addr} {u v1 v2 : Value} (h : a.cell? a1 = some v1 ∧ a.cell? a2 = some v2 ∧ Kep w p u a) (E : Ext a b) : b.cell? a1 = some v1 ∧ b.cell? a2 = some v2 ∧ Kep w p u b :=
  ⟨E.cell h.1, E.cell h.2.1, h.2.2.ext E⟩
theorem kepS {w a : World} {p a1 a2 : Addr} {u v1 v2 : Value} (h : a.cell? a1 = some v1 ∧ a.cell? a2 = some v2 ∧ Kep w p u a) (h1 : p.block ≠ a1.block) (h2 : p.block ≠ a2.block) : (a.setCell p u).cell? a1 = some v1 ∧ (a.setCell p u).cell? a2 = some v2 ∧ Kep w p u (a.setCell p u) :=
  ⟨cell_set_far h.1 h1, cell_set_far h.2.1 h2, .inr h.2.2.set⟩
end Go.Proofs.YtghemmmkbpfdhaaGreatDoor
