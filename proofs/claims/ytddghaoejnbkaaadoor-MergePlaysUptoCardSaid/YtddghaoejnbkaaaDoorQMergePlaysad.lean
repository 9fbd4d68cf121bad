/- Contracts and lemmas for the proof of MergePlays; each theorem states its own conditions. -/
import Derived.Test.YtddghaoejnbkaaaDoorQMergePlaysac
set_option linter.unusedVariables false
set_option linter.unusedSimpArgs false
/- Contracts and lemmas for the proofs of this seat; each theorem states its own conditions. -/
namespace Go.Proofs.YtddghaoejnbkaaaDoor
/-! merge of inputs, in plain lists -/
structure Ent where
  ops : Ops
  im : Bool
  cuts : List ByteArray
  own : List Int
abbrev Bat := List Ent
/-- the least number of closed batches of the inputs below k -/
def mnTo (cl : List (List Bat)) : Nat → Nat
  | 0 => (cl.getD 0 []).length
  | k + 1 => min (mnTo cl k) (cl.getD k []).length
def rdM (cl : List (List Bat)) : Nat := mnTo cl cl.length
theorem mnTo_le (cl : List (List Bat)) : ∀ {k i : Nat}, i < k → mnTo cl k ≤ (cl.getD i []).length
  | k + 1, i, h => by
    rw [mnTo]
    rcases Nat.lt_or_ge i k with e | e
    · have := mnTo_le cl e; omega
    · obtain rfl : i = k := by omega
      omega
theorem mnTo_is (cl : List (List Bat)) : ∀ k, ∃ i, (i = 0 ∨ i < k) ∧ mnTo cl k = (cl.getD i []).length
  | 0 => ⟨0, .inl rfl, rfl⟩
  | k + 1 => by
    obtain ⟨i, hi, e⟩ := mnTo_is cl k
    rw [mnTo]
    rcases Nat.le_total (mnTo cl k) (cl.getD k []).length with h | h
    · exact ⟨i, by omega, by omega⟩
    · exact ⟨k, by omega, by omega⟩
theorem mnTo_ge (cl : List (List Bat)) {n : Nat} (h0 : n ≤ (cl.getD 0 []).length) : ∀ {k : Nat}, (∀ i, i < k → n ≤ (cl.getD i []).length) → n ≤ mnTo cl k
  | 0, _ => h0
  | k + 1, h => by
    have := mnTo_ge cl h0 (k := k) fun i hi => h i (by omega)
    have := h k (by omega)
    rw [mnTo]; omega
theorem rdM_le {cl : List (List Bat)} {i : Nat} (h : i < cl.length) : rdM cl ≤ (cl.getD i []).length := mnTo_le cl h
theorem rdM_ge {cl : List (List Bat)} {n : Nat} (h0 : 0 < cl.length) (h : ∀ i, i < cl.length → n ≤ (cl.getD i []).length) : n ≤ rdM cl := mnTo_ge cl (h 0 h0) h
theorem rdM_is {cl : List (List Bat)} (h0 : 0 < cl.length) : ∃ i, i < cl.length ∧ rdM cl = (cl.getD i []).length := by
  obtain ⟨i, hi, e⟩ := mnTo_is cl cl.length
  exact ⟨i, by omega, e⟩
/-- one round of the inputs below i -/
def rowTo (cl : List (List Bat)) (r : Nat) : Nat → Bat
  | 0 => []
  | i + 1 => rowTo cl r i ++ (cl.getD i []).getD r []
/-- the rounds below r -/
def logTo (cl : List (List Bat)) : Nat → Bat
  | 0 => []
  | r + 1 => logTo cl r ++ rowTo cl r cl.length
def logM (cl : List (List Bat)) : Bat := logTo cl (rdM cl)
/-- a batch closed -/
def clsM (cl : List (List Bat)) (i : Nat) (b : Bat) : List (List Bat) := cl.set i (cl.getD i [] ++ [b])
theorem cls_len (cl : List (List Bat)) (i : Nat) (b : Bat) : (clsM cl i b).length = cl.length := by simp [clsM]
theorem cls_at {cl : List (List Bat)} {i : Nat} (hi : i < cl.length) (b : Bat) (j : Nat) : (clsM cl i b).getD j [] = if j = i then cl.getD i [] ++ [b] else cl.getD j [] := by
  unfold clsM
  by_cases e : j = i
  · subst e; rw [if_pos rfl]; simp [hi]
  · rw [if_neg e]
    simp only [List.getD_eq_getElem?_getD]
    rw [List.getElem?_set_ne (fun h => e h.symm)]
theorem logTo_more (cl : List (List Bat)) (r : Nat) : ∀ d, ∃ l, logTo cl (r + d) = logTo cl r ++ l
  | 0 => ⟨[], by simp⟩
  | d + 1 => by
    obtain ⟨l, h⟩ := logTo_more cl r d
    exact ⟨l ++ rowTo cl (r + d) cl.length, by rw [← Nat.add_assoc, logTo, h, List.append_assoc]⟩
/-- the inputs below k that have as many as there are rounds -/
def wtTo (cl : List (List Bat)) (R : Nat) : Nat → List Nat
  | 0 => []
  | k + 1 => wtTo cl R k ++ (if (cl.getD k []).length = R then [k] else [])
theorem wt_len (cl : List (List Bat)) (R : Nat) : ∀ k, (wtTo cl R k).length ≤ k
  | 0 => Nat.le_refl _
  | k + 1 => by
    have := wt_len cl R k
    rw [wtTo, List.length_append]
    split <;> simp <;> omega
def wtM (cl : List (List Bat)) : List Nat := wtTo cl (rdM cl) cl.length
/-- how many entries came in -/
def manyTo (cl : List (List Bat)) (op : List Bat) : Nat → Nat
  | 0 => 0
  | i + 1 => manyTo cl op i + (op.getD i []).length + ((cl.getD i []).map List.length).sum
def manyM (cl : List (List Bat)) (op : List Bat) : Nat := manyTo cl op cl.length
/-- an entry added -/
def addM (op : List Bat) (i : Nat) (x : Ent) : List Bat := op.set i (op.getD i [] ++ [x])
theorem add_len (op : List Bat) (i : Nat) (x : Ent) : (addM op i x).length = op.length := by simp [addM]
theorem add_at {op : List Bat} {i : Nat} (hi : i < op.length) (x : Ent) (j : Nat) : (addM op i x).getD j [] = if j = i then op.getD i [] ++ [x] else op.getD j [] := by
  unfold addM
  by_cases e : j = i
  · subst e; rw [if_pos rfl]; simp [hi]
  · rw [if_neg e]
    simp only [List.getD_eq_getElem?_getD]
    rw [List.getElem?_set_ne (fun h => e h.symm)]
theorem manyTo_add (cl : List (List Bat)) {op : List Bat} {i : Nat} (hi : i < op.length) (x : Ent) : ∀ k, manyTo cl (addM op i x) k = manyTo cl op k + if i < k then 1 else 0
  | 0 => by simp [manyTo]
  | k + 1 => by
    rw [manyTo, manyTo, manyTo_add cl hi x k, add_at hi]
    by_cases e : k = i
    · subst e; rw [if_pos rfl, if_neg (by omega), if_pos (by omega)]; simp; omega
    · rw [if_neg e]
      by_cases e2 : i < k
      · rw [if_pos e2, if_pos (by omega)]; omega
      · rw [if_neg e2, if_neg (by omega)]; omega
theorem many_add {cl : List (List Bat)} {op : List Bat} {i : Nat} (hl : op.length = cl.length) (hi : i < op.length) (x : Ent) : manyM cl (addM op i x) = manyM cl op + 1 := by
  unfold manyM
  rw [manyTo_add cl hi x, if_pos (by omega)]
theorem manyTo_cls {cl : List (List Bat)} {op : List Bat} {i : Nat} (hl : op.length = cl.length) (hi : i < cl.length) : ∀ k, manyTo (clsM cl i (op.getD i [])) (op.set i []) k = manyTo cl op k
  | 0 => rfl
  | k + 1 => by
    rw [manyTo, manyTo, manyTo_cls hl hi k, cls_at hi]
    by_cases e : k = i
    · subst e; rw [if_pos rfl]
      have : (op.set k []).getD k [] = ([] : Bat) := by simp [List.getD_eq_getElem?_getD, List.getElem?_set_self (show k < op.length by omega)]
      rw [this]; simp; omega
    · rw [if_neg e]
      have : (op.set i []).getD k [] = op.getD k [] := by
        simp only [List.getD_eq_getElem?_getD]
        rw [List.getElem?_set_ne (fun h => e h.symm)]
      rw [this]
theorem many_cls {cl : List (List Bat)} {op : List Bat} {i : Nat} (hl : op.length = cl.length) (hi : i < cl.length) : manyM (clsM cl i (op.getD i [])) (op.set i []) = manyM cl op := by
  unfold manyM
  rw [cls_len, manyTo_cls hl hi]
end Go.Proofs.YtddghaoejnbkaaaDoor
