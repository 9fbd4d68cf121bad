/- Contracts and lemmas for the proof of TextLog; each theorem states its own conditions. -/
import Derived.Test.YtnepdfpooobmcaaDoorQTextLogbl
import Derived.Test.YtnepdfpooobmcaaDoorQTextLogaz
import Derived.Test.YtnepdfpooobmcaaDoorQTextLogba
set_option linter.unusedVariables false
set_option linter.unusedSimpArgs false
/- Contracts and lemmas for the proofs of this seat; each theorem states its own conditions. -/
namespace Go.Proofs.YtnepdfpooobmcaaDoor
open Go.RowKit
/-! text.ReadEntry, plain -/
/-- cut at the first c -/
def cutF (c : UInt8) : List UInt8 → Option (List UInt8 × List UInt8)
  | [] => none
  | b :: l => if b = c then some ([], l) else (cutF c l).map fun p => (b :: p.1, p.2)
/-- cut at the last c -/
def cutZ (c : UInt8) (l : List UInt8) : Option (List UInt8 × List UInt8) := (cutF c l.reverse).map fun p => (p.2.reverse, p.1.reverse)
theorem cutF_none {c : UInt8} : ∀ {l : List UInt8}, cutF c l = none → c ∉ l
  | [], _ => by simp
  | b :: l, h => by
    rw [cutF] at h
    split at h
    · cases h
    · rename_i hb
      have := cutF_none (l := l) (by simpa using h)
      simp only [List.mem_cons, not_or]
      exact ⟨fun e => hb e.symm, this⟩
theorem cutF_some {c : UInt8} : ∀ {l a r : List UInt8}, cutF c l = some (a, r) → l = a ++ c :: r ∧ c ∉ a
  | [], a, r, h => by cases h
  | b :: l, a, r, h => by
    rw [cutF] at h
    split at h
    · rename_i hb
      injection h with h; injection h with h1 h2
      subst h1; subst h2; subst hb
      exact ⟨rfl, by simp⟩
    · rename_i hb
      cases hc : cutF c l with
      | none => rw [hc] at h; cases h
      | some p =>
        rw [hc] at h
        injection h with h; injection h with h1 h2
        obtain ⟨e1, e2⟩ := cutF_some (l := l) (a := p.1) (r := p.2) hc
        subst h1; subst h2
        refine ⟨by rw [e1]; simp, ?_⟩
        simp only [List.mem_cons, not_or]
        exact ⟨fun e => hb e.symm, e2⟩
theorem cutF_at {c : UInt8} : ∀ {a : List UInt8} (r : List UInt8), c ∉ a → cutF c (a ++ c :: r) = some (a, r)
  | [], r, _ => by simp [cutF]
  | b :: a, r, h => by
    simp only [List.mem_cons, not_or] at h
    rw [List.cons_append, cutF, if_neg (fun e => h.1 e.symm), cutF_at r h.2]
    rfl
theorem cutF_not {c : UInt8} {l : List UInt8} (h : c ∉ l) : cutF c l = none := by
  cases hc : cutF c l with
  | none => rfl
  | some p => obtain ⟨e, _⟩ := cutF_some (a := p.1) (r := p.2) hc; exact absurd (by rw [e]; simp) h
theorem cutZ_none {c : UInt8} {l : List UInt8} (h : cutZ c l = none) : c ∉ l := by
  have := cutF_none (c := c) (l := l.reverse) (by simpa [cutZ] using h)
  simpa using this
theorem cutZ_some {c : UInt8} {l a r : List UInt8} (h : cutZ c l = some (a, r)) : l = a ++ c :: r ∧ c ∉ r := by
  unfold cutZ at h
  cases hc : cutF c l.reverse with
  | none => rw [hc] at h; cases h
  | some p =>
    rw [hc] at h
    injection h with h; injection h with h1 h2
    obtain ⟨e1, e2⟩ := cutF_some (a := p.1) (r := p.2) hc
    subst h1; subst h2
    refine ⟨?_, by simpa using e2⟩
    rw [← List.reverse_reverse l, e1]
    simp
theorem cutZ_at {c : UInt8} (a : List UInt8) {r : List UInt8} (h : c ∉ r) : cutZ c (a ++ c :: r) = some (a, r) := by
  have := cutF_at (c := c) (a := r.reverse) a.reverse (by simpa using h)
  rw [cutZ, show (a ++ c :: r).reverse = r.reverse ++ c :: a.reverse by simp, this]
  simp
def mapW : List UInt8 := [109, 97, 112, 32]
def entN : Ent := ⟨[], false, [], []⟩
/-- an entry's body read: the error, the entry -/
def bodyRd (b : List UInt8) : Int × Ent :=
  if mapW.isPrefixOf b = true then ((mapRd (bA (b.drop 4))).1, ⟨[], true, (mapRd (bA (b.drop 4))).2.1, (mapRd (bA (b.drop 4))).2.2⟩) else ((deedRd (bA b)).1, ⟨(deedRd (bA b)).2, false, [], []⟩)
/-- P39 of a line: the error, the entry, how long -/
def lnRd1 (line : List UInt8) : Int × Ent × Nat :=
  match cutZ 32 line with
  | none => (9, entN, 0)
  | some (b, n) =>
    match numL n with
    | none => (9, entN, 0)
    | some v => if v ≠ sbL b then (8, entN, 0) else if (bodyRd b).1 = 0 then (0, (bodyRd b).2, line.length + 1) else ((bodyRd b).1, entN, 0)
/-- P39 -/
def lnRd (l : List UInt8) : Int × Ent × Nat :=
  match cutF 10 l with
  | none => (7, entN, 0)
  | some (line, _) => lnRd1 line
theorem ixb_no : ∀ {l : List UInt8} {c : UInt8}, c ∉ l → Lib.indexByte l c = -1
  | [], c, _ => rfl
  | b :: l, c, h => by
    simp only [List.mem_cons, not_or] at h
    have ih := ixb_no (l := l) h.2
    have hb : (b == c) = false := by simpa using fun e => h.1 (Eq.symm e)
    simp [Lib.indexByte, ih, hb]
theorem ixb_at : ∀ {a r : List UInt8} {c : UInt8}, c ∉ a → Lib.indexByte (a ++ c :: r) c = (a.length : Int)
  | [], r, c, _ => by simp [Lib.indexByte]
  | b :: a, r, c, h => by
    simp only [List.mem_cons, not_or] at h
    have ih := ixb_at (a := a) (r := r) h.2
    have hb : (b == c) = false := by simpa using fun e => h.1 (Eq.symm e)
    simp only [List.cons_append, Lib.indexByte, hb, ih, List.length_cons]
    have : (((a.length : Int)) == -1) = false := by simp
    simp [this]
theorem dat_get (s : ByteArray) {j : Nat} (hj : j < s.size) : s.data[j]! = s.data.toList.getD j 0 := by
  have h1 : j < s.data.size := hj
  rw [getElem!_pos s.data j h1, List.getD_eq_getElem?_getD, Array.getElem?_toList, Array.getElem?_eq_getElem h1]
  rfl
theorem lxb_no {s : ByteArray} (h : (32 : UInt8) ∉ s.data.toList) : Lib.lastIndexByte s 32 = -1 := by
  rcases Lib.lastIdx_spec s 32 s.size with ⟨e, _⟩ | ⟨i, hi, _, e, _⟩
  · exact e
  · exfalso
    have h1 : i < s.data.toList.length := by rw [toL_len]; exact hi
    rw [dat_get s hi] at e
    refine h ?_
    have e2 : s.data.toList.getD i 0 = 32 := UInt8.toNat_inj.1 (by have : ((32 : UInt8).toNat : Int) = 32 := rfl; omega)
    rw [← e2, List.getD_eq_getElem?_getD, List.getElem?_eq_getElem h1]
    exact List.getElem_mem h1
theorem lxb_at {s : ByteArray} {b n : List UInt8} (e : s.data.toList = b ++ 32 :: n) (h : (32 : UInt8) ∉ n) : Lib.lastIndexByte s 32 = (b.length : Int) := by
  have hsz : s.size = b.length + (n.length + 1) := by rw [← toL_len, e]; simp
  have hat : ((s.data[b.length]!).toNat : Int) = 32 := by rw [dat_get s (by omega), e]; simp
  rcases Lib.lastIdx_spec s 32 s.size with ⟨_, q⟩ | ⟨i, hi, e1, e2, q⟩
  · exact absurd hat (q _ (by omega))
  · rw [Lib.lastIndexByte, e1]
    rcases Nat.lt_trichotomy i b.length with g | g | g
    · exact absurd hat (q _ g (by omega))
    · rw [g]
    · exfalso
      refine h ?_
      rw [dat_get s hi] at e2
      have e3 : s.data.toList.getD i 0 = 32 := UInt8.toNat_inj.1 (by have : ((32 : UInt8).toNat : Int) = 32 := rfl; omega)
      rw [e, List.getD_eq_getElem?_getD, List.getElem?_append_right (by omega), show i - b.length = (i - b.length - 1) + 1 by omega, List.getElem?_cons_succ, List.getElem?_eq_getElem (by omega)] at e3
      simp only [Option.getD_some] at e3
      rw [← e3]
      exact List.getElem_mem _
end Go.Proofs.YtnepdfpooobmcaaDoor
