/- Contracts and lemmas for the proof of MergeGrows; each theorem states its own conditions. -/
import Derived.Test.YtijcckhkofkenaaQMergeGrowsae
set_option linter.unusedVariables false
set_option linter.unusedSimpArgs false
/- Contracts and lemmas for the proofs of this seat; each theorem states its own conditions. -/
namespace Go.Proofs.Ytijcckhkofkenaa
/-! merge of inputs, in plain lists -/
structure Ent where
  ops : Ops
  im : Bool
  cuts : List ByteArray
  own : List Int
abbrev Bat := List Ent
/-- the least number of closed batches of the inputs below k -/
def mnTo (cl : List (List Bat)) : Nat → Nat
  | 0 => (cl.getD 0 []).length
  | k + 1 => min (mnTo cl k) (cl.getD k []).length
def rdM (cl : List (List Bat)) : Nat := mnTo cl cl.length
theorem mnTo_le (cl : List (List Bat)) : ∀ {k i : Nat}, i < k → mnTo cl k ≤ (cl.getD i []).length
  | k + 1, i, h => by
    rw [mnTo]
    rcases Nat.lt_or_ge i k with e | e
    · have := mnTo_le cl e; omega
    · obtain rfl : i = k := by omega
      omega
theorem mnTo_is (cl : List (List Bat)) : ∀ k, ∃ i, (i = 0 ∨ i < k) ∧ mnTo cl k = (cl.getD i []).length
  | 0 => ⟨0, .inl rfl, rfl⟩
  | k + 1 => by
    obtain ⟨i, hi, e⟩ := mnTo_is cl k
    rw [mnTo]
    rcases Nat.le_total (mnTo cl k) (cl.getD k []).length with h | h
    · exact ⟨i, by omega, by omega⟩
    · exact ⟨k, by omega, by omega⟩
theorem mnTo_ge (cl : List (List Bat)) {n : Nat} (h0 : n ≤ (cl.getD 0 []).length) : ∀ {k : Nat}, (∀ i, i < k → n ≤ (cl.getD i []).length) → n ≤ mnTo cl k
  | 0, _ => h0
  | k + 1, h => by
    have := mnTo_ge cl h0 (k := k) fun i hi => h i (by omega)
    have := h k (by omega)
    rw [mnTo]; omega
theorem rdM_le {cl : List (List Bat)} {i : Nat} (h : i < cl.length) : rdM cl ≤ (cl.getD i []).length := mnTo_le cl h
theorem rdM_ge {cl : List (List Bat)} {n : Nat} (h0 : 0 < cl.length) (h : ∀ i, i < cl.length → n ≤ (cl.getD i []).length) : n ≤ rdM cl := mnTo_ge cl (h 0 h0) h
theorem rdM_is {cl : List (List Bat)} (h0 : 0 < cl.length) : ∃ i, i < cl.length ∧ rdM cl = (cl.getD i []).length := by
  obtain ⟨i, hi, e⟩ := mnTo_is cl cl.length
  exact ⟨i, by omega, e⟩
/-- one round of the inputs below i -/
def rowTo (cl : List (List Bat)) (r : Nat) : Nat → Bat
  | 0 => []
  | i + 1 => rowTo cl r i ++ (cl.getD i []).getD r []
/-- the rounds below r -/
def logTo (cl : List (List Bat)) : Nat → Bat
  | 0 => []
  | r + 1 => logTo cl r ++ rowTo cl r cl.length
def logM (cl : List (List Bat)) : Bat := logTo cl (rdM cl)
/-- a batch closed -/
def clsM (cl : List (List Bat)) (i : Nat) (b : Bat) : List (List Bat) := cl.set i (cl.getD i [] ++ [b])
theorem cls_len (cl : List (List Bat)) (i : Nat) (b : Bat) : (clsM cl i b).length = cl.length := by simp [clsM]
theorem cls_at {cl : List (List Bat)} {i : Nat} (hi : i < cl.length) (b : Bat) (j : Nat) : (clsM cl i b).getD j [] = if j = i then cl.getD i [] ++ [b] else cl.getD j [] := by
  unfold clsM
  by_cases e : j = i
  · subst e; rw [if_pos rfl]; simp [hi]
  · rw [if_neg e]
    simp only [List.getD_eq_getElem?_getD]
    rw [List.getElem?_set_ne (fun h => e h.symm)]
theorem cls_ge {cl : List (List Bat)} {i : Nat} (hi : i < cl.length) (b : Bat) (j : Nat) : (cl.getD j []).length ≤ ((clsM cl i b).getD j []).length := by
  rw [cls_at hi]
  split
  · rename_i e; subst e; simp
  · exact Nat.le_refl _
theorem cls_rd {cl : List (List Bat)} {i : Nat} (hi : i < cl.length) (b : Bat) : rdM cl ≤ rdM (clsM cl i b) :=
  rdM_ge (by rw [cls_len]; omega) fun j hj => by
    rw [cls_len] at hj
    have := cls_ge hi b j
    have := rdM_le hj
    omega
theorem cls_row {cl : List (List Bat)} {i : Nat} (hi : i < cl.length) (b : Bat) {r : Nat} (hr : r < rdM cl) : ∀ {k : Nat}, k ≤ cl.length → rowTo (clsM cl i b) r k = rowTo cl r k
  | 0, _ => rfl
  | k + 1, h => by
    rw [rowTo, rowTo, cls_row hi b hr (by omega), cls_at hi]
    congr 1
    split
    · rename_i e; subst e
      have := rdM_le hi
      simp only [List.getD_eq_getElem?_getD]
      rw [List.getElem?_append_left (by rw [List.getD_eq_getElem?_getD] at this; omega)]
    · rfl
theorem cls_log {cl : List (List Bat)} {i : Nat} (hi : i < cl.length) (b : Bat) : ∀ {r : Nat}, r ≤ rdM cl → logTo (clsM cl i b) r = logTo cl r
  | 0, _ => rfl
  | r + 1, h => by
    rw [logTo, logTo, cls_log hi b (by omega), cls_len, cls_row hi b (by omega) (Nat.le_refl _)]
theorem logTo_more (cl : List (List Bat)) (r : Nat) : ∀ d, ∃ l, logTo cl (r + d) = logTo cl r ++ l
  | 0 => ⟨[], by simp⟩
  | d + 1 => by
    obtain ⟨l, h⟩ := logTo_more cl r d
    exact ⟨l ++ rowTo cl (r + d) cl.length, by rw [← Nat.add_assoc, logTo, h, List.append_assoc]⟩
theorem cls_more {cl : List (List Bat)} {i : Nat} (hi : i < cl.length) (b : Bat) : ∃ l, logM (clsM cl i b) = logM cl ++ l ∧ (rdM (clsM cl i b) = rdM cl → l = []) := by
  obtain ⟨d, hd⟩ : ∃ d, rdM (clsM cl i b) = rdM cl + d := ⟨rdM (clsM cl i b) - rdM cl, by have := cls_rd hi b; omega⟩
  obtain ⟨l, hl⟩ := logTo_more (clsM cl i b) (rdM cl) d
  have h2 := cls_log hi b (Nat.le_refl (rdM cl))
  refine ⟨l, by rw [logM, hd, hl, h2]; rfl, fun e => ?_⟩
  obtain rfl : d = 0 := by omega
  rw [Nat.add_zero] at hl
  have := congrArg List.length hl
  rw [List.length_append] at this
  exact List.length_eq_zero_iff.1 (by omega)
/-- the inputs below k that have as many as there are rounds -/
def wtTo (cl : List (List Bat)) (R : Nat) : Nat → List Nat
  | 0 => []
  | k + 1 => wtTo cl R k ++ (if (cl.getD k []).length = R then [k] else [])
theorem wt_mem {cl : List (List Bat)} {R j : Nat} : ∀ {k : Nat}, j ∈ wtTo cl R k ↔ j < k ∧ (cl.getD j []).length = R
  | 0 => by simp [wtTo]
  | k + 1 => by
    rw [wtTo, List.mem_append, wt_mem]
    constructor
    · rintro (⟨a, b⟩ | h)
      · exact ⟨by omega, b⟩
      · split at h
        · rename_i e; simp at h; subst h; exact ⟨by omega, e⟩
        · simp at h
    · rintro ⟨a, b⟩
      rcases Nat.lt_or_ge j k with e | e
      · exact .inl ⟨e, b⟩
      · obtain rfl : j = k := by omega
        right; rw [if_pos b]; simp
theorem wt_len (cl : List (List Bat)) (R : Nat) : ∀ k, (wtTo cl R k).length ≤ k
  | 0 => Nat.le_refl _
  | k + 1 => by
    have := wt_len cl R k
    rw [wtTo, List.length_append]
    split <;> simp <;> omega
theorem wt_nodup (cl : List (List Bat)) (R : Nat) : ∀ k, (wtTo cl R k).Nodup
  | 0 => by simp [wtTo]
  | k + 1 => by
    rw [wtTo, List.nodup_append]
    refine ⟨wt_nodup cl R k, by split <;> simp, fun a ha b hb => ?_⟩
    have := (wt_mem.1 ha).1
    split at hb
    · simp at hb; omega
    · simp at hb
def wtM (cl : List (List Bat)) : List Nat := wtTo cl (rdM cl) cl.length
theorem wt_some {cl : List (List Bat)} (h0 : 0 < cl.length) : wtM cl ≠ [] := by
  obtain ⟨i, hi, e⟩ := rdM_is h0
  intro h
  have : i ∈ wtM cl := wt_mem.2 ⟨hi, e.symm⟩
  rw [h] at this; simp at this
/-- closing those that are waited for, one by one -/
theorem wt_close {cl cl' : List (List Bat)} (hl : cl'.length = cl.length) (h0 : 0 < cl.length) {j : Nat} (hj : j ≤ (wtM cl).length)
    (h : ∀ i, i < cl.length → (cl'.getD i []).length = (cl.getD i []).length + (if i ∈ (wtM cl).take j then 1 else 0)) : rdM cl' = rdM cl + if j = (wtM cl).length then 1 else 0 := by
  by_cases e : j = (wtM cl).length
  · subst e
    rw [if_pos rfl]
    rw [List.take_of_length_le (Nat.le_refl _)] at h
    apply Nat.le_antisymm
    · obtain ⟨i, hi, e⟩ := rdM_is h0
      have h1 := rdM_le (cl := cl') (i := i) (by omega)
      rw [h i hi, ← e] at h1
      split at h1 <;> omega
    · refine rdM_ge (by omega) fun i hi => ?_
      rw [hl] at hi
      rw [h i hi]
      have h1 := rdM_le hi
      split
      · omega
      · rename_i hn
        have : (cl.getD i []).length ≠ rdM cl := fun q => hn (wt_mem.2 ⟨hi, q⟩)
        omega
  · rw [if_neg e, Nat.add_zero]
    have hj : j < (wtM cl).length := by omega
    apply Nat.le_antisymm
    · obtain ⟨hi, hr⟩ := wt_mem.1 (List.getElem_mem hj)
      have h1 := rdM_le (cl := cl') (i := (wtM cl)[j]) (by omega)
      rw [h _ hi, hr] at h1
      have hn : (wtM cl)[j] ∉ (wtM cl).take j := by
        intro hm
        have hnd : (wtM cl).Nodup := wt_nodup _ _ _
        obtain ⟨m, hm1, hm2⟩ := List.mem_take_iff_getElem.1 hm
        have := List.pairwise_iff_getElem.1 hnd m j (by omega) hj (by omega)
        exact this hm2
      rw [if_neg hn] at h1
      omega
    · refine rdM_ge (by omega) fun i hi => ?_
      rw [hl] at hi
      rw [h i hi]
      have h1 := rdM_le hi
      omega
/-- how many entries came in -/
def manyTo (cl : List (List Bat)) (op : List Bat) : Nat → Nat
  | 0 => 0
  | i + 1 => manyTo cl op i + (op.getD i []).length + ((cl.getD i []).map List.length).sum
def manyM (cl : List (List Bat)) (op : List Bat) : Nat := manyTo cl op cl.length
/-- an entry added -/
def addM (op : List Bat) (i : Nat) (x : Ent) : List Bat := op.set i (op.getD i [] ++ [x])
theorem add_len (op : List Bat) (i : Nat) (x : Ent) : (addM op i x).length = op.length := by simp [addM]
theorem add_at {op : List Bat} {i : Nat} (hi : i < op.length) (x : Ent) (j : Nat) : (addM op i x).getD j [] = if j = i then op.getD i [] ++ [x] else op.getD j [] := by
  unfold addM
  by_cases e : j = i
  · subst e; rw [if_pos rfl]; simp [hi]
  · rw [if_neg e]
    simp only [List.getD_eq_getElem?_getD]
    rw [List.getElem?_set_ne (fun h => e h.symm)]
theorem manyTo_add (cl : List (List Bat)) {op : List Bat} {i : Nat} (hi : i < op.length) (x : Ent) : ∀ k, manyTo cl (addM op i x) k = manyTo cl op k + if i < k then 1 else 0
  | 0 => by simp [manyTo]
  | k + 1 => by
    rw [manyTo, manyTo, manyTo_add cl hi x k, add_at hi]
    by_cases e : k = i
    · subst e; rw [if_pos rfl, if_neg (by omega), if_pos (by omega)]; simp; omega
    · rw [if_neg e]
      by_cases e2 : i < k
      · rw [if_pos e2, if_pos (by omega)]; omega
      · rw [if_neg e2, if_neg (by omega)]; omega
theorem many_add {cl : List (List Bat)} {op : List Bat} {i : Nat} (hl : op.length = cl.length) (hi : i < op.length) (x : Ent) : manyM cl (addM op i x) = manyM cl op + 1 := by
  unfold manyM
  rw [manyTo_add cl hi x, if_pos (by omega)]
theorem manyTo_cls {cl : List (List Bat)} {op : List Bat} {i : Nat} (hl : op.length = cl.length) (hi : i < cl.length) : ∀ k, manyTo (clsM cl i (op.getD i [])) (op.set i []) k = manyTo cl op k
  | 0 => rfl
  | k + 1 => by
    rw [manyTo, manyTo, manyTo_cls hl hi k, cls_at hi]
    by_cases e : k = i
    · subst e; rw [if_pos rfl]
      have : (op.set k []).getD k [] = ([] : Bat) := by simp [List.getD_eq_getElem?_getD, List.getElem?_set_self (show k < op.length by omega)]
      rw [this]; simp; omega
    · rw [if_neg e]
      have : (op.set i []).getD k [] = op.getD k [] := by
        simp only [List.getD_eq_getElem?_getD]
        rw [List.getElem?_set_ne (fun h => e h.symm)]
      rw [this]
theorem many_cls {cl : List (List Bat)} {op : List Bat} {i : Nat} (hl : op.length = cl.length) (hi : i < cl.length) : manyM (clsM cl i (op.getD i [])) (op.set i []) = manyM cl op := by
  unfold manyM
  rw [cls_len, manyTo_cls hl hi]
end Go.Proofs.Ytijcckhkofkenaa
