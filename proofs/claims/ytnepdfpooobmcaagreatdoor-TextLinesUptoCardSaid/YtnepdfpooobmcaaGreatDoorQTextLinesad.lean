/- Contracts and lemmas for the proof of TextLines; each theorem states its own conditions. -/
import Derived.Test.YtnepdfpooobmcaaGreatDoorQTextLinesac
set_option linter.unusedVariables false
set_option linter.unusedSimpArgs false
/- Contracts and lemmas for the proofs of this seat; each theorem states its own conditions. -/
namespace Go.Proofs.YtnepdfpooobmcaaGreatDoor
open Go.Lib
/-! numerals as roref has them: plain laws -/
def digB (c : UInt8) : Bool := 48 ≤ c.toNat && c.toNat ≤ 57
/-- the value of digits -/
def digF (a : Nat) (c : UInt8) : Nat := 10 * a + (c.toNat - 48)
def digV (acc : Nat) (l : List UInt8) : Nat := l.foldl digF acc
theorem digV_cons (a : Nat) (c : UInt8) (l : List UInt8) : digV a (c :: l) = digV (digF a c) l := by unfold digV; rw [List.foldl_cons]
theorem digV_nil (a : Nat) : digV a [] = a := by unfold digV; rw [List.foldl_nil]
theorem digF_dig (a : Nat) {k : Nat} (h : k < 10) : digF a (UInt8.ofNat (48 + k)) = 10 * a + k := by
  unfold digF
  rw [dig_toNat h]
  omega
theorem digF_le (a : Nat) {c : UInt8} (h : digB c = true) : digF a c ≤ 10 * a + 9 := by
  simp only [digB, Bool.and_eq_true, decide_eq_true_eq] at h
  unfold digF
  omega
theorem digV_app (m : List UInt8) : ∀ (l : List UInt8) (a : Nat), digV a (l ++ m) = digV (digV a l) m := by
  intro l
  induction l with
  | nil => intro a; rw [digV_nil, List.nil_append]
  | cons c l ih => intro a; rw [List.cons_append, digV_cons, digV_cons, ih]
theorem digV_dec (u : Nat) : digV 0 (decDigits u) = u := by
  induction u using Nat.strongRecOn with
  | _ u ih =>
    rw [decDigits]
    split
    · rename_i h
      rw [digV_cons, digV_nil, digF_dig 0 h]
      omega
    · rename_i h
      rw [digV_app, ih (u / 10) (by omega), digV_cons, digV_nil, digF_dig _ (Nat.mod_lt u (show 0 < 10 by omega))]
      omega
theorem digV_lt : ∀ (l : List UInt8) (a : Nat), (∀ c ∈ l, digB c = true) → digV a l < (a + 1) * 10 ^ l.length := by
  intro l
  induction l with
  | nil => intro a _; rw [digV_nil]; simp
  | cons c l ih =>
    intro a h
    have hc := digF_le a (h c (by simp))
    have := ih (digF a c) (fun d hd => h d (by simp [hd]))
    rw [digV_cons, List.length_cons]
    generalize digF a c = x at *
    have h2 : (x + 1) * 10 ^ l.length ≤ (10 * a + 10) * 10 ^ l.length := Nat.mul_le_mul_right _ (by omega)
    have h3 : (10 * a + 10) * 10 ^ l.length = (a + 1) * 10 ^ (l.length + 1) := by rw [Nat.pow_succ, show 10 * a + 10 = (a + 1) * 10 by omega, Nat.mul_assoc, Nat.mul_comm 10]
    omega
theorem dec_dig (u : Nat) : ∀ c ∈ decDigits u, digB c = true := fun c hc => by
  have := dec_digs u c hc
  simp [digB, this.1, this.2]
/-- without a sign ahead -/
def noSign : List UInt8 → Bool × List UInt8
  | 45 :: l => (true, l)
  | l => (false, l)
theorem noSign_minus (l : List UInt8) : noSign (45 :: l) = (true, l) := rfl
theorem noSign_else {l : List UInt8} (h : l.head? ≠ some 45) : noSign l = (false, l) := by
  unfold noSign
  split
  · simp at h
  · rfl
/-- what digits say, with their sign -/
def signV (m : Bool) (n : Nat) : Int := if m then -(n : Int) else n
theorem itoa_noSign {z : Int} : ∃ m, noSign (itoa z) = (m, decDigits z.natAbs) ∧ signV m z.natAbs = z := by
  unfold itoa
  split
  · exact ⟨true, rfl, by simp [signV]; omega⟩
  · rename_i h
    refine ⟨false, ?_, by simp [signV]; omega⟩
    have e : z.toNat = z.natAbs := by omega
    rw [e]
    refine noSign_else ?_
    intro q
    cases hL : decDigits z.natAbs with
    | nil => exact absurd hL (dec_ne _)
    | cons c r =>
      rw [hL] at q
      simp at q
      have := dec_digs z.natAbs c (by rw [hL]; simp)
      rw [q] at this
      have t45 : UInt8.toNat 45 = 45 := rfl
      omega
/-- what is a number, is one of digits -/
theorem numL_digs {l : List UInt8} {z : Int} (h : numL l = some z) : (∀ c ∈ (noSign l).2, digB c = true) ∧ l.length ≤ 11 ∧ signV (noSign l).1 (digV 0 (noSign l).2) = z ∧ itoa z = l := by
  obtain ⟨h1, h2, _⟩ := numL_some h
  obtain ⟨m, e1, e2⟩ := itoa_noSign (z := z)
  rw [h1] at e1
  rw [e1]
  exact ⟨dec_dig _, h2, by rw [digV_dec]; exact e2, h1⟩
theorem numL_of {l : List UInt8} {z : Int} (h : itoa z = l) (h2 : l.length ≤ 11) (h0 : -1000000000000000000 < z) (h1 : z < 1000000000000000000) : numL l = some z := by
  unfold numL
  rw [← h] at h2 ⊢
  rw [atoi_itoa h0 h1]
  simp [h2]
theorem digV_big {l : List UInt8} (h : ∀ c ∈ l, digB c = true) (hl : l.length ≤ 11) : digV 0 l < 100000000000 := by
  have h1 := digV_lt l 0 h
  have h2 : 10 ^ l.length ≤ 10 ^ 11 := Nat.pow_le_pow_right (by omega) hl
  omega
/-- the numerals are what Dec gives back -/
theorem numL_dec {l : List UInt8} (h : ∀ c ∈ (noSign l).2, digB c = true) (h2 : l.length ≤ 11) : numL l = if itoa (signV (noSign l).1 (digV 0 (noSign l).2)) = l then some (signV (noSign l).1 (digV 0 (noSign l).2)) else none := by
  have hl : (noSign l).2.length ≤ l.length := by
    unfold noSign
    split <;> simp
  have hb := digV_big h (by omega)
  generalize hz : signV (noSign l).1 (digV 0 (noSign l).2) = z
  have hzb : -100000000000 < z ∧ z < 100000000000 := by rw [← hz]; unfold signV; split <;> omega
  split
  · rename_i q
    exact numL_of q h2 (by omega) (by omega)
  · rename_i q
    cases hn : numL l with
    | none => rfl
    | some y =>
      obtain ⟨_, _, e1, e2⟩ := numL_digs hn
      rw [hz] at e1
      subst e1
      exact absurd e2 q
theorem numL_bad {l : List UInt8} {c : UInt8} (h : c ∈ (noSign l).2) (hc : digB c = false ∨ 11 < l.length) : numL l = none := by
  cases hn : numL l with
  | none => rfl
  | some y =>
    obtain ⟨h1, h2, _⟩ := numL_digs hn
    have := h1 c h
    rcases hc with q | q
    · rw [q] at this; cases this
    · omega
end Go.Proofs.YtnepdfpooobmcaaGreatDoor
