/- Contracts and lemmas for the proof of TextLog; each theorem states its own conditions. -/
import Derived.Test.YtnepdfpooobmcaaDoorQTextLogbn
set_option linter.unusedVariables false
set_option linter.unusedSimpArgs false
/- Contracts and lemmas for the proofs of this seat; each theorem states its own conditions. -/
namespace Go.Proofs.YtnepdfpooobmcaaDoor
/-! a log as text, in plain lists -/
/-- P40, over at most so many lines -/
def lgRd : Nat → List UInt8 → Int × List Ent × Nat
  | 0, _ => (0, [], 0)
  | f + 1, l =>
    if l = [] then (0, [], 0) else if (lnRd l).1 = 7 then (0, [], 0) else if (lnRd l).1 ≠ 0 then ((lnRd l).1, [], 0)
    else if (lgRd f (l.drop (lnRd l).2.2)).1 = 0 then (0, (lnRd l).2.1 :: (lgRd f (l.drop (lnRd l).2.2)).2.1, (lnRd l).2.2 + (lgRd f (l.drop (lnRd l).2.2)).2.2) else ((lgRd f (l.drop (lnRd l).2.2)).1, [], 0)
def logT (xs : List Ent) : List UInt8 := xs.flatMap entT
theorem lnRd_short {l : List UInt8} (h : (10 : UInt8) ∉ l) : lnRd l = (7, entN, 0) := by rw [lnRd, cutF_not h]
theorem entT_ne (x : Ent) : entT x ≠ [] := by simp [entT, lineT]
/-- a log read as it was written, with a rest that holds no line -/
theorem lgRd_rt {r : List UInt8} (hr : (10 : UInt8) ∉ r) : ∀ (xs : List Ent) (f : Nat), xs.length < f → (∀ x ∈ xs, entE x = 0) → lgRd f (logT xs ++ r) = (0, xs.map bareE, (logT xs).length)
  | [], f + 1, _, _ => by
    rw [lgRd]
    simp only [logT, List.flatMap_nil, List.nil_append, lnRd_short hr]
    split <;> simp
  | x :: xs, f + 1, h, hx => by
    have ih := lgRd_rt hr xs f (by simpa using h) (fun y hy => hx y (by simp [hy]))
    have h1 := lnRd_rt (hx x (by simp)) (logT xs ++ r)
    have e : logT (x :: xs) ++ r = entT x ++ (logT xs ++ r) := by simp [logT]
    rw [e, lgRd, if_neg (by simp [entT_ne]), h1]
    simp only [List.drop_left, ih]
    simp [logT]
end Go.Proofs.YtnepdfpooobmcaaDoor

/- Contracts and lemmas for the proofs of this seat; each theorem states its own conditions. -/
namespace Go.Proofs.YtnepdfpooobmcaaDoor
/-! a log as text: what a prefix of it says; how a reading goes on -/
theorem lnRd_len {l : List UInt8} (h : (lnRd l).1 = 0) : 1 ≤ (lnRd l).2.2 ∧ (lnRd l).2.2 ≤ l.length := by
  obtain ⟨b, more, rfl, hb, hr, _⟩ := lnRd_ok h
  rw [lnRd_line hb more hr]
  simp only [List.length_append]
  have : (lineT b).length ≠ 0 := by simp [lineT]
  omega
/-- what was read, and what the rest says -/
def lgAcc (X : List Ent) (u : Nat) (r : Int × List Ent × Nat) : Int × List Ent × Nat := if r.1 = 0 then (0, X ++ r.2.1, u + r.2.2) else (r.1, [], 0)
theorem lgAcc_nil (r : Int × List Ent × Nat) (h : r.1 ≠ 0 → r = (r.1, [], 0)) : lgAcc [] 0 r = r := by
  obtain ⟨a, b, c⟩ := r
  unfold lgAcc
  split
  · rename_i h0
    simp only at h0
    subst h0
    simp
  · rename_i h0
    exact (h h0).symm
theorem lgRd_err : ∀ (f : Nat) (l : List UInt8), (lgRd f l).1 ≠ 0 → lgRd f l = ((lgRd f l).1, [], 0)
  | 0, l, h => by simp [lgRd] at h
  | f + 1, l, h => by
    rw [lgRd] at h ⊢
    split at h
    · simp at h
    · rename_i h1
      rw [if_neg h1]
      split at h
      · simp at h
      · rename_i h2
        rw [if_neg h2]
        split at h
        · rename_i h3
          rw [if_pos h3]
        · rename_i h3
          rw [if_neg h3]
          split at h
          · simp at h
          · rename_i h4
            rw [if_neg h4]
theorem lgRd_end {f : Nat} {l : List UInt8} (h : l = [] ∨ (lnRd l).1 = 7) : lgRd (f + 1) l = (0, [], 0) := by
  rw [lgRd]
  by_cases h0 : l = []
  · rw [if_pos h0]
  · rw [if_neg h0, if_pos (h.resolve_left h0)]
theorem lgRd_bad {f : Nat} {l : List UInt8} (h0 : l ≠ []) (h7 : (lnRd l).1 ≠ 7) (h : (lnRd l).1 ≠ 0) : lgRd (f + 1) l = ((lnRd l).1, [], 0) := by
  rw [lgRd, if_neg h0, if_neg h7, if_pos h]
theorem lgAcc_step {X : List Ent} {u f : Nat} {l : List UInt8} (h0 : l ≠ []) (h : (lnRd l).1 = 0) :
    lgAcc X u (lgRd (f + 1) l) = lgAcc (X ++ [(lnRd l).2.1]) (u + (lnRd l).2.2) (lgRd f (l.drop (lnRd l).2.2)) := by
  have h7 : (lnRd l).1 ≠ 7 := by rw [h]; decide
  rw [lgRd, if_neg h0, if_neg h7, if_neg (by simp [h])]
  unfold lgAcc
  by_cases hr : (lgRd f (l.drop (lnRd l).2.2)).1 = 0
  · rw [if_pos hr, if_pos hr, if_pos rfl]
    simp [Nat.add_assoc]
  · rw [if_neg hr, if_neg hr, if_neg hr]
/-- a whole log read -/
def lgAll (l : List UInt8) : Int × List Ent × Nat := if 20000 < l.length then (2, [], 0) else lgRd (l.length + 1) l
theorem entT_end {x : Ent} (h : entE x = 0) : ∃ a, entT x = a ++ [10] ∧ (10 : UInt8) ∉ a := by
  refine ⟨bodyT x ++ 32 :: Lib.itoa (sbL (bodyT x)), by simp [entT, lineT], ?_⟩
  simp only [List.mem_append, List.mem_cons, not_or]
  exact ⟨(bodP_ent h).nl, by decide, itoaN_not _ 10 rfl⟩
/-- a log cut anywhere: its whole lines, and a rest that holds no end of a line -/
theorem log_cut : ∀ (xs : List Ent) (c : Nat), (∀ x ∈ xs, entE x = 0) → c ≤ (logT xs).length →
    ∃ m r, m ≤ xs.length ∧ (logT xs).take c = logT (xs.take m) ++ r ∧ (10 : UInt8) ∉ r ∧ ((logT xs).take c).count 10 = m
  | [], c, _, hc => ⟨0, [], by simp, by simp [logT], by simp, by simp [logT]⟩
  | x :: xs, c, h, hc => by
    obtain ⟨a, ha, hn⟩ := entT_end (h x (by simp))
    have e : logT (x :: xs) = entT x ++ logT xs := by simp [logT]
    rw [e] at hc ⊢
    by_cases hl : c < (entT x).length
    · rw [List.take_append_of_le_length (by omega), ha, List.take_append_of_le_length (by rw [ha] at hl; simp at hl; omega)]
      have hm : (10 : UInt8) ∉ a.take c := fun q => hn (List.mem_of_mem_take q)
      exact ⟨0, a.take c, by simp, by simp [logT], hm, List.count_eq_zero.2 hm⟩
    · rw [List.length_append] at hc
      obtain ⟨m, r, h1, h2, h3, h4⟩ := log_cut xs (c - (entT x).length) (fun y hy => h y (by simp [hy])) (by omega)
      refine ⟨m + 1, r, by simp; omega, ?_, h3, ?_⟩
      · rw [List.take_append, List.take_of_length_le (by omega), h2]
        simp [logT]
      · rw [List.take_append, List.take_of_length_le (by omega), List.count_append, h4, ha, List.count_append, List.count_eq_zero.2 hn]
        simp
        omega
theorem logT_len : ∀ xs : List Ent, xs.length ≤ (logT xs).length
  | [] => by simp [logT]
  | x :: xs => by
    have := logT_len xs
    have h2 : (entT x).length ≠ 0 := by simp [entT, lineT]
    simp [logT] at this ⊢
    omega
theorem logT_snoc (xs : List Ent) (x : Ent) : logT (xs ++ [x]) = logT xs ++ entT x := by simp [logT]
end Go.Proofs.YtnepdfpooobmcaaDoor
