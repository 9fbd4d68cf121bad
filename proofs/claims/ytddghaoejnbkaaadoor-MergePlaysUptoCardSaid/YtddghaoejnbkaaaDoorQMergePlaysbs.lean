/- Contracts and lemmas for the proof of MergePlays; each theorem states its own conditions. -/
import Derived.Test.YtddghaoejnbkaaaDoorQMergePlaysbc
set_option linter.unusedVariables false
set_option linter.unusedSimpArgs false
/- Contracts and lemmas for the proofs of this seat; each theorem states its own conditions. -/
namespace Go.Proofs.YtddghaoejnbkaaaDoor
open Go.RowKit
/-! merges that are fed, in plain lists -/
def colTo (cl : List (List Bat)) (r : Nat) : Nat → Nat
  | 0 => 0
  | k + 1 => colTo cl r k + sumTo (cl.getD k []) r
theorem col_step (cl : List (List Bat)) (r : Nat) : ∀ k, colTo cl (r + 1) k = colTo cl r k + (rowTo cl r k).length
  | 0 => rfl
  | k + 1 => by
    rw [colTo, col_step cl r k, colTo, rowTo, List.length_append, sumTo]; omega
theorem col_log (cl : List (List Bat)) : ∀ r, (logTo cl r).length = colTo cl r cl.length
  | 0 => by
    have : ∀ k, colTo cl 0 k = 0 := fun k => by
      induction k with
      | zero => rfl
      | succ k ih => rw [colTo, ih]; rfl
    rw [this]; rfl
  | r + 1 => by rw [logTo, List.length_append, col_log cl r, col_step]
theorem col_many (cl : List (List Bat)) (op : List Bat) {r : Nat} : ∀ {k : Nat}, (∀ i, i < k → r ≤ (cl.getD i []).length) → colTo cl r k ≤ manyTo cl op k
  | 0, _ => Nat.le_refl _
  | k + 1, h => by
    have h1 := col_many cl op (k := k) fun i hi => h i (by omega)
    have h2 := sumTo_mono (cl.getD k []) (h k (by omega))
    rw [sumTo_all] at h2
    rw [colTo, manyTo]; omega
theorem log_many (cl : List (List Bat)) (op : List Bat) : (logM cl).length ≤ manyM cl op := by
  unfold logM manyM
  rw [col_log]
  exact col_many cl op fun i hi => rdM_le hi
theorem op_many {cl : List (List Bat)} {op : List Bat} {i : Nat} (hi : i < cl.length) : (op.getD i []).length ≤ manyM cl op := by
  have := manyTo_mono cl op (show i + 1 ≤ cl.length from hi)
  rw [manyTo] at this
  unfold manyM; omega
/-- all entries are small -/
def SmM (cl : List (List Bat)) (op : List Bat) : Prop := (∀ i, i < cl.length → ∀ j, j < (cl.getD i []).length → ∀ x ∈ (cl.getD i []).getD j [], EntSm x) ∧ ∀ i, i < op.length → ∀ x ∈ op.getD i [], EntSm x
theorem SmM.log {cl : List (List Bat)} {op : List Bat} (h : SmM cl op) : ∀ l ∈ cl, ∀ b ∈ l, ∀ x ∈ b, EntSm x := by
  intro l hl b hb x hx
  obtain ⟨i, hi, rfl⟩ := List.mem_iff_getElem.1 hl
  obtain ⟨j, hj, rfl⟩ := List.mem_iff_getElem.1 hb
  refine h.1 i hi j (by rw [getD_lt hi]; exact hj) x ?_
  rw [getD_lt hi, getD_lt hj]; exact hx
theorem SmM.nil (n : Nat) : SmM (List.replicate n []) (List.replicate n []) :=
  ⟨fun i hi j hj => by rw [getD_repl] at hj; simp at hj, fun i hi x hx => by rw [getD_repl'] at hx; simp at hx⟩
theorem SmM.add {cl : List (List Bat)} {op : List Bat} (h : SmM cl op) {i : Nat} (hi : i < op.length) {x : Ent} (hx : EntSm x) : SmM cl (addM op i x) := by
  refine ⟨h.1, fun j hj y hy => ?_⟩
  rw [add_len] at hj
  rw [add_at hi] at hy
  split at hy
  · rcases List.mem_append.1 hy with a | a
    · exact h.2 i hi y a
    · simp at a; subst a; exact hx
  · exact h.2 j hj y hy
theorem SmM.cls {cl : List (List Bat)} {op : List Bat} (h : SmM cl op) {i : Nat} (hi : i < cl.length) (hl : op.length = cl.length) : SmM (clsM cl i (op.getD i [])) (op.set i []) := by
  refine ⟨fun j hj k hk x hx => ?_, fun j hj x hx => ?_⟩
  · rw [cls_len] at hj
    rw [cls_at hi] at hk hx
    split at hk
    · rename_i e
      rw [if_pos e] at hx
      rw [List.length_append, List.length_singleton] at hk
      rcases Nat.lt_or_ge k (cl.getD i []).length with a | a
      · simp only [List.getD_eq_getElem?_getD] at hx
        rw [List.getElem?_append_left (by rw [List.getD_eq_getElem?_getD] at a; exact a)] at hx
        simp only [← List.getD_eq_getElem?_getD] at hx
        exact h.1 i hi k a x hx
      · obtain rfl : k = (cl.getD i []).length := by omega
        have : (cl.getD i [] ++ [op.getD i []]).getD (cl.getD i []).length [] = op.getD i [] := by
          rw [List.getD_eq_getElem?_getD, List.getElem?_append_right (Nat.le_refl _), Nat.sub_self]; rfl
        rw [this] at hx
        exact h.2 i (by omega) x hx
    · rename_i e
      rw [if_neg e] at hx
      exact h.1 j hj k hk x hx
  · rw [List.length_set] at hj
    by_cases e : j = i
    · subst e
      have : (op.set j []).getD j [] = ([] : Bat) := by simp [List.getD_eq_getElem?_getD, List.getElem?_set_self (show j < op.length by omega)]
      rw [this] at hx; simp at hx
    · have : (op.set i []).getD j [] = op.getD j [] := by
        simp only [List.getD_eq_getElem?_getD]
        rw [List.getElem?_set_ne (fun h => e h.symm)]
      rw [this] at hx
      exact h.2 j hj x hx
/-- a merge within bounds: n inputs, at most a entries, at most k batches of an input -/
structure BdM (n a k : Nat) (cl : List (List Bat)) (op : List Bat) : Prop where
  n0 : 0 < n
  lc : cl.length = n
  lo : op.length = n
  many : manyM cl op ≤ a
  len : ∀ i, i < n → (cl.getD i []).length ≤ k
  sm : SmM cl op
theorem BdM.mono {n a k a' k' : Nat} {cl : List (List Bat)} {op : List Bat} (h : BdM n a k cl op) (ha : a ≤ a') (hk : k ≤ k') : BdM n a' k' cl op :=
  ⟨h.n0, h.lc, h.lo, Nat.le_trans h.many ha, fun i hi => Nat.le_trans (h.len i hi) hk, h.sm⟩
theorem many_nil (n : Nat) : manyM (List.replicate n []) (List.replicate n []) = 0 := by
  have : ∀ k, manyTo (List.replicate n []) (List.replicate n []) k = 0 := fun k => by
    induction k with
    | zero => rfl
    | succ k ih => rw [manyTo, ih, getD_repl, getD_repl']; rfl
  exact this _
theorem BdM.nil {n : Nat} (h : 0 < n) : BdM n 0 0 (List.replicate n []) (List.replicate n []) :=
  ⟨h, by simp, by simp, by rw [many_nil]; exact Nat.le_refl _, fun i hi => by rw [getD_repl]; simp, SmM.nil n⟩
theorem BdM.add {n a k : Nat} {cl : List (List Bat)} {op : List Bat} (h : BdM n a k cl op) {i : Nat} (hi : i < n) {x : Ent} (hx : EntSm x) : BdM n (a + 1) k cl (addM op i x) :=
  ⟨h.n0, h.lc, by rw [add_len]; exact h.lo, by rw [many_add (by rw [h.lc, h.lo]) (by rw [h.lo]; exact hi)]; have := h.many; omega, h.len, h.sm.add (by rw [h.lo]; exact hi) hx⟩
theorem BdM.cls {n a k : Nat} {cl : List (List Bat)} {op : List Bat} (h : BdM n a k cl op) {i : Nat} (hi : i < n) : BdM n a (k + 1) (clsM cl i (op.getD i [])) (op.set i []) :=
  ⟨h.n0, by rw [cls_len]; exact h.lc, by rw [List.length_set]; exact h.lo, by rw [many_cls (by rw [h.lc, h.lo]) (by rw [h.lc]; exact hi)]; exact h.many, fun j hj => by
    rw [cls_at (by rw [h.lc]; exact hi)]
    have := h.len j hj
    split
    · rename_i e; subst e; rw [List.length_append, List.length_singleton]; omega
    · omega, h.sm.cls (by rw [h.lc]; exact hi) (by rw [h.lc, h.lo])⟩
end Go.Proofs.YtddghaoejnbkaaaDoor
