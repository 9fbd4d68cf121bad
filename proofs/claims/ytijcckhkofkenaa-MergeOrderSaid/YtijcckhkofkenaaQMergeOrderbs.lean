/- Contracts and lemmas for the proof of MergeOrder; each theorem states its own conditions. -/
import Derived.Test.YtijcckhkofkenaaQMergeOrderbr
set_option linter.unusedVariables false
set_option linter.unusedSimpArgs false
/- Contracts and lemmas for the proofs of this seat; each theorem states its own conditions. -/
namespace Go.Proofs.Ytijcckhkofkenaa
open Go.RowKit
/-! MergeOrder, in plain lists: input by input -/
def initM (n : Nat) : MSt := (List.replicate n [], List.replicate n [])
/-- behind t calls -/
def atM (n : Nat) (X : List Ent) (ls : List (List Int)) (t : Nat) : MSt × Nat := fedM n X (initM n, 0) (ls.take t)
theorem atM_zero (n : Nat) (X : List Ent) (ls : List (List Int)) : atM n X ls 0 = (initM n, 0) := by simp [atM, fedM]
theorem atM_succ (n : Nat) (X : List Ent) {ls : List (List Int)} {t : Nat} (h : t < ls.length) : atM n X ls (t + 1) = fed1 n X (atM n X ls t) ls[t] := fed_snoc n X _ h
/-- as far as each input is: those above i behind all, i behind j -/
def tM (L i j m : Nat) : Nat := if i < m then L else if m = i then j else 0
def mixM (n : Nat) (X : List Ent) (ls : List (List Int)) (i j : Nat) : MSt :=
  ((List.range n).map fun m => (atM n X ls (tM ls.length i j m)).1.1.getD m [], (List.range n).map fun m => (atM n X ls (tM ls.length i j m)).1.2.getD m [])
theorem map_at {α : Type} {n m : Nat} (f : Nat → List α) (h : m < n) : ((List.range n).map f).getD m [] = f m := by simp [h]
theorem mix_cl {n : Nat} (X : List Ent) (ls : List (List Int)) (i j : Nat) {m : Nat} (h : m < n) : (mixM n X ls i j).1.getD m [] = (atM n X ls (tM ls.length i j m)).1.1.getD m [] := map_at _ h
theorem mix_op {n : Nat} (X : List Ent) (ls : List (List Int)) (i j : Nat) {m : Nat} (h : m < n) : (mixM n X ls i j).2.getD m [] = (atM n X ls (tM ls.length i j m)).1.2.getD m [] := map_at _ h
theorem mix_len (n : Nat) (X : List Ent) (ls : List (List Int)) (i j : Nat) : (mixM n X ls i j).1.length = n ∧ (mixM n X ls i j).2.length = n := by simp [mixM]
theorem ext_getD {α : Type} {a b : List (List α)} {n : Nat} (ha : a.length = n) (hb : b.length = n) (h : ∀ m, m < n → a.getD m [] = b.getD m []) : a = b := by
  apply List.ext_getElem (by omega)
  intro m h1 h2
  have := h m (by omega)
  rwa [getD_lt h1, getD_lt h2] at this
theorem fed1_len {n : Nat} {X : List Ent} {s : MSt × Nat} (h1 : s.1.1.length = n) (h2 : s.1.2.length = n) (c : List Int) : (fed1 n X s c).1.1.length = n ∧ (fed1 n X s c).1.2.length = n := by
  unfold fed1
  split
  · exact ⟨h1, h2⟩
  · split
    · split
      · exact ⟨h1, by rw [add_len]; exact h2⟩
      · exact ⟨h1, h2⟩
    · exact ⟨by rw [cls_len]; exact h1, by rw [List.length_set]; exact h2⟩
theorem atM_len (n : Nat) (X : List Ent) (ls : List (List Int)) : ∀ t, t ≤ ls.length → (atM n X ls t).1.1.length = n ∧ (atM n X ls t).1.2.length = n
  | 0, _ => by rw [atM_zero]; simp [initM]
  | t + 1, h => by
    obtain ⟨a, b⟩ := atM_len n X ls t (by omega)
    rw [atM_succ n X (show t < ls.length by omega)]
    exact fed1_len a b _
/-- what a call does to another input: nothing -/
theorem set_far {α : Type} {l : List (List α)} {i m : Nat} {x : List α} (h : m ≠ i) : (l.set i x).getD m [] = l.getD m [] := by
  simp only [List.getD_eq_getElem?_getD]
  rw [List.getElem?_set_ne (fun e => h e.symm)]
theorem set_hit {α : Type} {l : List (List α)} {i : Nat} {x : List α} (h : i < l.length) : (l.set i x).getD i [] = x := by
  simp [List.getD_eq_getElem?_getD, List.getElem?_set_self h]
theorem mix_done (n : Nat) (X : List Ent) (ls : List (List Int)) (i : Nat) : mixM n X ls (i + 1) 0 = mixM n X ls (i + 1) 0 := rfl
theorem mix_next (n : Nat) (X : List Ent) (ls : List (List Int)) (i : Nat) : mixM n X ls (i + 1) ls.length = mixM n X ls i 0 := by
  have : ∀ m, tM ls.length (i + 1) ls.length m = tM ls.length i 0 m := fun m => by
    unfold tM
    by_cases h1 : i + 1 < m
    · rw [if_pos h1, if_pos (by omega)]
    · rw [if_neg h1]
      by_cases h2 : m = i + 1
      · rw [if_pos h2, if_pos (by omega)]
      · rw [if_neg h2, if_neg (by omega)]
        split <;> rfl
  unfold mixM
  simp only [this]
theorem mix_start {n : Nat} (X : List Ent) (ls : List (List Int)) : mixM (n + 1) X ls n 0 = initM (n + 1) := by
  have h : ∀ m, m < n + 1 → tM ls.length n 0 m = 0 := fun m hm => by
    unfold tM
    rw [if_neg (by omega)]
    split <;> rfl
  refine Prod.ext ?_ ?_
  · refine ext_getD (mix_len _ X ls n 0).1 (by simp [initM]) fun m hm => ?_
    rw [mix_cl X ls n 0 hm, h m hm, atM_zero]
  · refine ext_getD (mix_len _ X ls n 0).2 (by simp [initM]) fun m hm => ?_
    rw [mix_op X ls n 0 hm, h m hm, atM_zero]
theorem mix_end (n : Nat) (X : List Ent) (ls : List (List Int)) : mixM n X ls 0 ls.length = (atM n X ls ls.length).1 := by
  have h : ∀ m, tM ls.length 0 ls.length m = ls.length := fun m => by
    unfold tM
    split
    · rfl
    · rw [if_pos (by omega)]
  obtain ⟨l1, l2⟩ := atM_len n X ls ls.length (Nat.le_refl _)
  refine Prod.ext ?_ ?_
  · refine ext_getD (mix_len _ X ls 0 _).1 l1 fun m hm => ?_
    rw [mix_cl X ls 0 _ hm, h m]
  · refine ext_getD (mix_len _ X ls 0 _).2 l2 fun m hm => ?_
    rw [mix_op X ls 0 _ hm, h m]
theorem tM_far {L i j m : Nat} (h : m ≠ i) : tM L i (j + 1) m = tM L i j m := by
  unfold tM
  split
  · rfl
  · simp only [if_neg h]
theorem tM_self (L i j : Nat) : tM L i j i = j := by
  unfold tM
  rw [if_neg (by omega), if_pos rfl]
/-- a step of input i: as the call c does it -/
def step1 (n : Nat) (X : List Ent) (i : Nat) (s : MSt) (nx : Nat) (c : List Int) : MSt :=
  if c.length < 2 then s
  else if (wi (c.getD 1 0) n).toNat = i then
    (if wi (c.getD 0 0) 3 < 2 then (if nx < X.length then (s.1, addM s.2 i (plainE (X.getD nx entZ))) else s)
    else (clsM s.1 i (s.2.getD i []), s.2.set i []))
  else s
theorem mix_step {n : Nat} (X : List Ent) {ls : List (List Int)} {i j : Nat} (hi : i < n) (hj : j < ls.length) : mixM n X ls i (j + 1) = step1 n X i (mixM n X ls i j) (atM n X ls j).2 ls[j] := by
  obtain ⟨l1, l2⟩ := atM_len n X ls j (by omega)
  have m1 := mix_len n X ls i j
  have m2 := mix_len n X ls i (j + 1)
  have hn : 0 < n := by omega
  obtain ⟨k, _, hk, hkn⟩ := wi_nat (z := ls[j].getD 1 0) hn
  have far1 : ∀ m, m < n → m ≠ i → (mixM n X ls i (j + 1)).1.getD m [] = (mixM n X ls i j).1.getD m [] := fun m hm e => by
    rw [mix_cl X ls i _ hm, mix_cl X ls i _ hm, tM_far e]
  have far2 : ∀ m, m < n → m ≠ i → (mixM n X ls i (j + 1)).2.getD m [] = (mixM n X ls i j).2.getD m [] := fun m hm e => by
    rw [mix_op X ls i _ hm, mix_op X ls i _ hm, tM_far e]
  have self1 : (mixM n X ls i (j + 1)).1.getD i [] = (fed1 n X (atM n X ls j) ls[j]).1.1.getD i [] := by
    rw [mix_cl X ls i _ hi, tM_self, atM_succ n X hj]
  have self2 : (mixM n X ls i (j + 1)).2.getD i [] = (fed1 n X (atM n X ls j) ls[j]).1.2.getD i [] := by
    rw [mix_op X ls i _ hi, tM_self, atM_succ n X hj]
  have now1 : (mixM n X ls i j).1.getD i [] = (atM n X ls j).1.1.getD i [] := by rw [mix_cl X ls i _ hi, tM_self]
  have now2 : (mixM n X ls i j).2.getD i [] = (atM n X ls j).1.2.getD i [] := by rw [mix_op X ls i _ hi, tM_self]
  generalize mixM n X ls i (j + 1) = B at m2 far1 far2 self1 self2 ⊢
  generalize mixM n X ls i j = A at m1 far1 far2 now1 now2 ⊢
  generalize atM n X ls j = s at l1 l2 self1 self2 now1 now2 ⊢
  generalize ls[j] = c at hk self1 self2 ⊢
  obtain ⟨m11, m12⟩ := m1
  obtain ⟨m21, m22⟩ := m2
  have same : ∀ A' : MSt, A'.1.length = n → A'.2.length = n → (∀ m, m < n → m ≠ i → A'.1.getD m [] = A.1.getD m []) → (∀ m, m < n → m ≠ i → A'.2.getD m [] = A.2.getD m []) → A'.1.getD i [] = B.1.getD i [] → A'.2.getD i [] = B.2.getD i [] → B = A' := by
    intro A' e1 e2 e3 e4 e5 e6
    refine Prod.ext (ext_getD m21 e1 fun m hm => ?_) (ext_getD m22 e2 fun m hm => ?_)
    · by_cases e : m = i
      · subst e; exact e5.symm
      · rw [far1 m hm e, e3 m hm e]
    · by_cases e : m = i
      · subst e; exact e6.symm
      · rw [far2 m hm e, e4 m hm e]
  unfold step1
  unfold fed1 at self1 self2
  rw [hk] at self1 self2 ⊢
  split
  · rename_i h
    rw [if_pos h] at self1 self2
    exact same A m11 m12 (fun _ _ _ => rfl) (fun _ _ _ => rfl) (by rw [self1, now1]) (by rw [self2, now2])
  · rename_i h
    rw [if_neg h] at self1 self2
    by_cases hki : k = i
    · subst hki
      rw [if_pos rfl]
      split
      · rename_i h3
        rw [if_pos h3] at self1 self2
        split
        · rename_i h4
          rw [if_pos h4] at self1 self2
          refine same _ m11 (by rw [add_len]; exact m12) (fun _ _ _ => rfl) (fun m hm e => ?_) (by rw [self1, now1]) ?_
          · rw [add_at (by omega), if_neg e]
          · rw [self2]
            show (addM A.2 k _).getD k [] = (addM s.1.2 k _).getD k []
            rw [add_at (by omega), add_at (by omega), if_pos rfl, if_pos rfl, now2]
        · rename_i h4
          rw [if_neg h4] at self1 self2
          exact same A m11 m12 (fun _ _ _ => rfl) (fun _ _ _ => rfl) (by rw [self1, now1]) (by rw [self2, now2])
      · rename_i h3
        rw [if_neg h3] at self1 self2
        refine same _ (by rw [cls_len]; exact m11) (by rw [List.length_set]; exact m12) (fun m hm e => ?_) (fun m hm e => ?_) ?_ ?_
        · rw [cls_at (by omega), if_neg e]
        · exact set_far e
        · rw [self1]
          show (clsM A.1 k _).getD k [] = (clsM s.1.1 k _).getD k []
          rw [cls_at (by omega), cls_at (by omega), if_pos rfl, if_pos rfl, now1, now2]
        · rw [self2]
          show (A.2.set k []).getD k [] = (s.1.2.set k []).getD k []
          rw [set_hit (by omega), set_hit (by omega)]
    · rw [if_neg hki]
      refine same A m11 m12 (fun _ _ _ => rfl) (fun _ _ _ => rfl) ?_ ?_
      · rw [self1]
        split
        · split
          · exact now1
          · exact now1
        · show A.1.getD i [] = (clsM s.1.1 k _).getD i []
          rw [cls_at (by omega), if_neg (fun e => hki e.symm), now1]
      · rw [self2]
        split
        · split
          · show A.2.getD i [] = (addM s.1.2 k _).getD i []
            rw [add_at (by omega), if_neg (fun e => hki e.symm), now2]
          · exact now2
        · show A.2.getD i [] = (s.1.2.set k []).getD i []
          rw [set_far (fun e => hki e.symm), now2]
def cntM (s : MSt) (m : Nat) : Nat := (s.2.getD m []).length + ((s.1.getD m []).map List.length).sum
theorem many_cnt (s : MSt) : ∀ k, manyTo s.1 s.2 k = ((List.range k).map (cntM s)).sum
  | 0 => rfl
  | k + 1 => by
    rw [manyTo, many_cnt s k, List.range_succ, List.map_append, List.sum_append]
    simp [cntM]; omega
theorem fed1_cnt {n : Nat} {X : List Ent} {s : MSt × Nat} (h0 : 0 < n) (h1 : s.1.1.length = n) (h2 : s.1.2.length = n) (c : List Int) (m : Nat) : cntM s.1 m ≤ cntM (fed1 n X s c).1 m := by
  unfold fed1
  split
  · exact Nat.le_refl _
  · obtain ⟨i, _, hi, hin⟩ := wi_nat (z := c.getD 1 0) h0
    rw [hi]
    split
    · split
      · unfold cntM
        show _ ≤ ((addM s.1.2 i _).getD m []).length + _
        rw [add_at (by omega)]
        split
        · rename_i e; subst e; rw [List.length_append]; simp only []; omega
        · exact Nat.le_refl _
      · exact Nat.le_refl _
    · unfold cntM
      show _ ≤ ((s.1.2.set i []).getD m []).length + (((clsM s.1.1 i _).getD m []).map List.length).sum
      rw [cls_at (by omega)]
      split
      · rename_i e; subst e
        rw [set_hit (by omega), List.map_append, List.sum_append]
        simp; omega
      · rename_i e
        rw [set_far e]
        exact Nat.le_refl _
theorem atM_cnt {n : Nat} (X : List Ent) (ls : List (List Int)) (h0 : 0 < n) (m : Nat) {t : Nat} : ∀ d, t + d ≤ ls.length → cntM (atM n X ls t).1 m ≤ cntM (atM n X ls (t + d)).1 m
  | 0, _ => Nat.le_refl _
  | d + 1, h => by
    have h1 := atM_cnt X ls h0 m (t := t) d (by omega)
    obtain ⟨l1, l2⟩ := atM_len n X ls (t + d) (by omega)
    have h2 := fed1_cnt (X := X) h0 l1 l2 (ls[t + d]'(by omega)) m
    rw [← Nat.add_assoc, atM_succ n X (show t + d < ls.length by omega)]
    omega
theorem sum_le {f g : Nat → Nat} : ∀ {k : Nat}, (∀ m, m < k → f m ≤ g m) → ((List.range k).map f).sum ≤ ((List.range k).map g).sum
  | 0, _ => Nat.le_refl _
  | k + 1, h => by
    have h1 := sum_le (f := f) (g := g) (k := k) fun m hm => h m (by omega)
    have h2 := h k (by omega)
    rw [List.range_succ, List.map_append, List.map_append, List.sum_append, List.sum_append]
    simp; omega
theorem tM_le {L i j m : Nat} (h : j ≤ L) : tM L i j m ≤ L := by
  unfold tM
  split
  · exact Nat.le_refl _
  · split
    · exact h
    · exact Nat.zero_le _
theorem mix_bd {n : Nat} {X : List Ent} (hX : ∀ x ∈ X, EntSm x) (ls : List (List Int)) (h0 : 0 < n) {i j : Nat} (hj : j ≤ ls.length) : BdM n X.length ls.length (mixM n X ls i j).1 (mixM n X ls i j).2 := by
  have hb := fed_bd hX (s := initM n) (BdM.nil h0) ls
  obtain ⟨m1, m2⟩ := mix_len n X ls i j
  have htle : ∀ m, tM ls.length i j m ≤ ls.length := fun m => tM_le hj
  refine ⟨h0, m1, m2, ?_, fun m hm => ?_, fun m hm k hk x hx => ?_, fun m hm x hx => ?_⟩
  · obtain ⟨b1, b2⟩ := hb ls.length (Nat.le_refl _)
    have hm := b1.many
    have hl := b1.lc
    unfold manyM at hm ⊢
    rw [m1, many_cnt]
    rw [hl, many_cnt] at hm
    have : ((List.range n).map (cntM (mixM n X ls i j))).sum ≤ ((List.range n).map (cntM (atM n X ls ls.length).1)).sum := sum_le fun m hm => by
      have h := atM_cnt X ls h0 m (t := tM ls.length i j m) (ls.length - tM ls.length i j m) (by have := htle m; omega)
      rw [show tM ls.length i j m + (ls.length - tM ls.length i j m) = ls.length by have := htle m; omega] at h
      unfold cntM at h ⊢
      rw [mix_cl X ls i j hm, mix_op X ls i j hm]
      exact h
    unfold atM at this
    omega
  · rw [mix_cl X ls i j hm]
    obtain ⟨b1, _⟩ := hb (tM ls.length i j m) (htle m)
    have := b1.len m hm
    have := htle m
    unfold atM
    omega
  · rw [m1] at hm
    rw [mix_cl X ls i j hm] at hk hx
    obtain ⟨b1, _⟩ := hb (tM ls.length i j m) (htle m)
    exact b1.sm.1 m (by have := b1.lc; omega) k hk x hx
  · rw [m2] at hm
    rw [mix_op X ls i j hm] at hx
    obtain ⟨b1, _⟩ := hb (tM ls.length i j m) (htle m)
    exact b1.sm.2 m (by have := b1.lo; omega) x hx
/-- those that are waited for, closed one by one -/
def clsW (s : MSt) : List Nat → MSt
  | [] => s
  | i :: l => clsW (clsM s.1 i (s.2.getD i []), s.2.set i []) l
theorem clsW_snoc (i : Nat) : ∀ (l : List Nat) (s : MSt), clsW s (l ++ [i]) = (clsM (clsW s l).1 i ((clsW s l).2.getD i []), (clsW s l).2.set i [])
  | [], s => rfl
  | k :: l, s => by rw [List.cons_append, clsW, clsW_snoc i l]; rfl
theorem clsW_bd {n a k : Nat} {s : MSt} (h : BdM n a k s.1 s.2) {W : List Nat} (hW : ∀ i ∈ W, i < n) (hnd : W.Nodup) : ∀ j, j ≤ W.length → BdM n a (k + j) (clsW s (W.take j)).1 (clsW s (W.take j)).2 ∧ ∀ m, m < n → ((clsW s (W.take j)).1.getD m []).length = (s.1.getD m []).length + if m ∈ W.take j then 1 else 0
  | 0, _ => by simp [clsW]; exact h
  | j + 1, hj => by
    obtain ⟨h1, h2⟩ := clsW_bd h hW hnd j (by omega)
    rw [List.take_succ_eq_append_getElem (show j < W.length from hj), clsW_snoc]
    have hin := hW _ (List.getElem_mem (show j < W.length from hj))
    refine ⟨h1.cls hin, fun m hm => ?_⟩
    show ((clsM _ _ _).getD m []).length = _
    rw [cls_at (by rw [h1.lc]; exact hin)]
    have hno : W[j] ∉ W.take j := by
      intro hm
      obtain ⟨q, q1, q2⟩ := List.mem_take_iff_getElem.1 hm
      exact List.pairwise_iff_getElem.1 hnd q j (by omega) hj (by omega) q2
    by_cases e : m = W[j]
    · rw [if_pos e, List.length_append, List.length_singleton, ← e, h2 m hm, if_neg (by rw [e]; exact hno), if_pos (List.mem_append.2 (.inr (by simp [← e])))]
    · rw [if_neg e, h2 m hm]
      by_cases e2 : m ∈ W.take j
      · rw [if_pos e2, if_pos (List.mem_append.2 (.inl e2))]
      · rw [if_neg e2, if_neg (fun hh => by rcases List.mem_append.1 hh with a | a; exact e2 a; simp at a; exact e a)]
theorem clsW_rd {n a k : Nat} {s : MSt} (h : BdM n a k s.1 s.2) {j : Nat} (hj : j ≤ (wtM s.1).length) : rdM (clsW s ((wtM s.1).take j)).1 = rdM s.1 + if j = (wtM s.1).length then 1 else 0 := by
  have hl := h.lc
  have hn := h.n0
  obtain ⟨b, c⟩ := clsW_bd h (W := wtM s.1) (fun i hi => by have := (wt_mem.1 hi).1; omega) (wt_nodup _ _ _) j hj
  exact wt_close (by rw [b.lc, hl]) (by omega) hj fun i hi => c i (by omega)
end Go.Proofs.Ytijcckhkofkenaa
