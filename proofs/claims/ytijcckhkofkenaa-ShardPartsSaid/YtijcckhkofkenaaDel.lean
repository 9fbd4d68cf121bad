/- Contracts and lemmas for the proofs of this seat; each theorem states its own conditions. -/
import Derived.Test.YtijcckhkofkenaaFn
import Derived.Test.YtijcckhkofkenaaRow
import Derived.Test.YtijcckhkofkenaaS9
namespace Go.Proofs.Ytijcckhkofkenaa
open Go.RowKit
/-! what slices.DeleteFunc's walk leans on -/
theorem grown_of_ext {w w' : World} (h : Ext w w') {row : Option Nat} : w.grownBy w' row := ⟨h.os, h.tape, h.output, h.size', fun i hi _ => Below.block h i hi⟩
theorem row_grown (w : World) (g : Nat) (cs : Array Value) : w.grownBy (w.setRow g cs) (some g) := by
  have hB := below_setRow (Below.refl 0 w) (Nat.zero_le g) cs
  exact ⟨hB.os, hB.tape, hB.output, hB.size, fun k _ hne => setRow_other w g k _ (fun e => hne (by rw [e]))⟩
theorem own_cell_set {w : World} {B e sz n c g i : Nat} {xs : List Value} (h : w.ownsRow B e sz (.slice (some ⟨g, 0, none⟩) n c) n xs) (hi : i < xs.length) (u : Value) : (w.setCell ⟨g, i, none⟩ u).ownsRow B e sz (.slice (some ⟨g, 0, none⟩) n c) n (xs.set i u) := by
  obtain ⟨h0, h1⟩ := h
  rcases h1 with ⟨h1, _⟩ | ⟨g', cap, cur, h1, h2, h3, h4, h5, h6, h7⟩
  · cases h1
  · injection h1 with e1 _ e3
    injection e1 with e1; injection e1 with e1
    subst e1; subst e3
    refine ⟨by simpa using h0, .inr ⟨g, c, cur.setIfInBounds i u, rfl, h2, ?_, h4, h5, by simpa using h6, ?_⟩⟩
    · simp [World.setCell, Array.getElem?_modify, h3]
    · show (cur.setIfInBounds i u).toList.take (n * sz) = xs.set i u
      rw [← h7]
      rw [Array.toList_setIfInBounds, List.take_set]
theorem own_free {w : World} {B e sz n c g : Nat} {xs : List Value} (h : w.ownsRow B e sz (.slice (some ⟨g, 0, none⟩) n c) n xs) (i : Nat) : w.frozen? ⟨g, i, none⟩ = false := by
  obtain ⟨cur, hc⟩ := own_heap h
  simp [World.frozen?, hc]
theorem own_cell_at {w : World} {B e sz n c g i : Nat} {xs : List Value} (h : w.ownsRow B e sz (.slice (some ⟨g, 0, none⟩) n c) n xs) (hi : i < xs.length) : ∃ u, w.cell? ⟨g, i, none⟩ = some u := by
  have hn : 0 < n := by
    rcases Nat.eq_zero_or_pos n with e | e
    · have := h.1; rw [e] at this; omega
    · exact e
  obtain ⟨_, _, he, _, _, _, hc⟩ := seg_cells (own_seg h) hn
  injection he with he; injection he with he1 he2
  subst he1; subst he2
  have := hc i xs[i] (List.getElem?_eq_getElem hi)
  rw [Nat.zero_add] at this
  exact ⟨_, this⟩
/-- two stores into one's own row, side by side -/
theorem own_two {w : World} {B e sz n c g i : Nat} {xs : List Value} (h : w.ownsRow B e sz (.slice (some ⟨g, 0, none⟩) n c) n xs) (hi : i + 1 < xs.length) (u : Value) :
    (∃ z, w.cell? ⟨g, i, none⟩ = some z) ∧ w.frozen? ⟨g, i, none⟩ = false ∧ (∃ z, (w.setCell ⟨g, i, none⟩ u).cell? ⟨g, i + 1, none⟩ = some z) ∧ (w.setCell ⟨g, i, none⟩ u).frozen? ⟨g, i + 1, none⟩ = false := by
  have h2 := own_cell_set h (i := i) (by omega) u
  exact ⟨own_cell_at h (by omega), own_free h i, own_cell_at h2 (by rw [List.length_set]; omega), own_free h2 (i + 1)⟩
theorem first_of {α : Type} {p : α → Bool} {L : List α} (h : ¬ ∀ x ∈ L, p x = false) : ∃ i, ∃ (hi : i < L.length), (∀ j (h : j < i), p (L[j]'(by omega)) = false) ∧ p L[i] = true := by
  induction L with
  | nil => exact absurd (by simp) h
  | cons x L ih =>
    cases hx : p x with
    | true => exact ⟨0, by simp, fun j hj => by omega, by simpa using hx⟩
    | false =>
      obtain ⟨i, hi, h1, h2⟩ := ih fun hh => h fun y hy => by
        rcases List.mem_cons.1 hy with e | e
        · rw [e]; exact hx
        · exact hh y e
      refine ⟨i + 1, by simpa using hi, fun j hj => ?_, by simpa using h2⟩
      cases j with
      | zero => simpa using hx
      | succ j => simpa using h1 j (by omega)
theorem first_fil {α : Type} {p : α → Bool} {L : List α} {i : Nat} (hi : i < L.length) (hlo : ∀ j (h : j < i), p (L[j]'(by omega)) = false) (hp : p L[i] = true) :
    ((L.take (i + 1)).filter fun x => !p x).length = i ∧ ((L.take (i + 1)).filter fun x => !p x) ++ [L[i]] ++ L.drop (i + 1) = L := by
  have e : ((L.take (i + 1)).filter fun x => !p x) = L.take i := by
    rw [List.take_succ_eq_append_getElem hi, List.filter_append]
    have e1 : (L.take i).filter (fun x => !p x) = L.take i := List.filter_eq_self.2 fun x hx => by
      obtain ⟨j, hj, rfl⟩ := List.mem_iff_getElem.1 hx
      simp only [List.length_take] at hj
      rw [List.getElem_take]
      simp [hlo j (by omega)]
    rw [e1]; simp [hp]
  rw [e]
  refine ⟨by rw [List.length_take]; omega, ?_⟩
  rw [List.append_assoc, List.singleton_append, ← List.drop_eq_getElem_cons hi, List.take_append_drop]
theorem del_step {α : Type} {p : α → Bool} {L mid : List α} {i j : Nat} (hj : j < L.length) (hf : ((L.take j).filter fun x => !p x).length = i) (hm : i + mid.length = j) (hij : i < j) :
    (p L[j] = true → ∃ mid', ((L.take (j + 1)).filter fun x => !p x).length = i ∧ i + mid'.length = j + 1 ∧ ((L.take (j + 1)).filter fun x => !p x) ++ mid' ++ L.drop (j + 1) = ((L.take j).filter fun x => !p x) ++ mid ++ L.drop j) ∧
    (p L[j] = false → ∃ mid', ((L.take (j + 1)).filter fun x => !p x).length = i + 1 ∧ i + 1 + mid'.length = j + 1 ∧ ((L.take (j + 1)).filter fun x => !p x) ++ mid' ++ L.drop (j + 1) = (((L.take j).filter fun x => !p x) ++ mid ++ L.drop j).set i L[j]) := by
  have e1 : (L.take (j + 1)).filter (fun x => !p x) = (L.take j).filter (fun x => !p x) ++ [L[j]].filter (fun x => !p x) := by
    rw [List.take_succ_eq_append_getElem hj, List.filter_append]
  have e2 := List.drop_eq_getElem_cons hj
  generalize (L.take j).filter (fun x => !p x) = A at hf e1
  generalize L[j] = x at e1 e2
  refine ⟨fun h => ⟨mid ++ [x], ?_, by simp; omega, ?_⟩, fun h => ?_⟩
  · rw [e1]; simp [h, hf]
  · rw [e1, e2]; simp [h]
  · obtain ⟨m0, rest, rfl⟩ : ∃ m0 rest, mid = m0 :: rest := by
      cases mid with
      | nil => simp at hm; omega
      | cons m0 rest => exact ⟨m0, rest, rfl⟩
    refine ⟨rest ++ [x], ?_, by simp at hm ⊢; omega, ?_⟩
    · rw [e1]; simp [h, hf]
    · rw [e1, e2, List.append_assoc A (m0 :: rest), List.set_append, if_neg (by omega), hf, Nat.sub_self]
      simp [h]
end Go.Proofs.Ytijcckhkofkenaa
