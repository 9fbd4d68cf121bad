/- Contracts and lemmas for the proof of TextLines; each theorem states its own conditions. -/
import Derived.Test.YtnepdfpooobmcaaGreatDoorQTextLinesab
import Derived.Lib.AtoiAll
import Derived.Lib.ItoaLen
import Derived.Lib.SplitLaws
set_option linter.unusedVariables false
set_option linter.unusedSimpArgs false
/- Contracts and lemmas for the proofs of this seat; each theorem states its own conditions. -/
namespace Go.Proofs.YtnepdfpooobmcaaGreatDoor
open Go.Lib
/-! plain laws of numerals and pieces of text -/
/-- a byte of a numeral -/
def numB (c : UInt8) : Bool := c == 45 || (48 ≤ c.toNat && c.toNat ≤ 57)
theorem dig_toNat {k : Nat} (h : k < 10) : (UInt8.ofNat (48 + k)).toNat = 48 + k := by
  rw [UInt8.toNat_ofNat']; omega
theorem dec_digs (u : Nat) : ∀ c ∈ decDigits u, 48 ≤ c.toNat ∧ c.toNat ≤ 57 := by
  induction u using Nat.strongRecOn with
  | _ u ih =>
    rw [decDigits]
    split
    · rename_i h
      intro c hc
      obtain rfl := List.mem_singleton.1 hc
      rw [dig_toNat h]; omega
    · rename_i h
      intro c hc
      rcases List.mem_append.1 hc with hc | hc
      · exact ih (u / 10) (by omega) c hc
      · obtain rfl := List.mem_singleton.1 hc
        rw [dig_toNat (Nat.mod_lt _ (by omega))]; have := Nat.mod_lt u (show 0 < 10 by omega); omega
theorem dec_ne (u : Nat) : decDigits u ≠ [] := by
  rw [decDigits]; split <;> simp
theorem itoa_numB (n : Int) : ∀ c ∈ itoa n, numB c = true := by
  intro c hc
  unfold itoa at hc
  have key : ∀ u, c ∈ decDigits u → numB c = true := fun u h => by
    have := dec_digs u c h
    simp [numB, this.1, this.2]
  split at hc
  · rcases List.mem_cons.1 hc with rfl | hc
    · rfl
    · exact key _ hc
  · exact key _ hc
theorem pu_append (b : List UInt8) : ∀ (a : List UInt8) (acc u : Nat), parseUint10 acc a = .ok u → parseUint10 acc (a ++ b) = parseUint10 u b
  | [], acc, u, h => by simp only [parseUint10] at h; injection h with h; subst h; rfl
  | c :: r, acc, u, h => by
    simp only [parseUint10] at h
    simp only [List.cons_append, parseUint10]
    split at h
    · rename_i h1
      rw [if_pos h1]
      split at h
      · cases h
      · rename_i h2
        rw [if_neg h2]
        split at h
        · cases h
        · rename_i h3
          rw [if_neg h3]
          exact pu_append b r _ u h
    · cases h
theorem pu_one {acc k : Nat} (hk : k < 10) (ha : acc < 1844674407370955161) : parseUint10 acc [UInt8.ofNat (48 + k)] = .ok (acc * 10 + k) := by
  simp only [parseUint10, dig_toNat hk]
  rw [if_pos (by omega), if_neg (by omega), if_neg (by omega)]
  congr 1
  omega
theorem pu_dec (u : Nat) : u < 1000000000000000000 → parseUint10 0 (decDigits u) = .ok u := by
  induction u using Nat.strongRecOn with
  | _ u ih =>
    intro hu
    rw [decDigits]
    split
    · rename_i h
      rw [pu_one h (by omega)]
      simp
    · rename_i h
      rw [pu_append _ _ _ _ (ih (u / 10) (by omega) (by omega)), pu_one (Nat.mod_lt _ (by omega)) (by omega)]
      congr 1
      omega
theorem mag_dec {u : Nat} (hu : u < 1000000000000000000) : parseMag (decDigits u) = .ok u := by
  rw [parseMag, if_neg (dec_ne u), pu_dec u hu]
theorem atoi_itoa {n : Int} (h0 : -1000000000000000000 < n) (h1 : n < 1000000000000000000) : atoiAll (itoa n) = .ok n := by
  unfold itoa
  split
  · rename_i h
    have e : parseMag (decDigits n.natAbs) = .ok n.natAbs := mag_dec (by omega)
    simp only [atoiAll]
    have t45 : UInt8.toNat 45 = 45 := rfl
    rw [t45, if_pos (Or.inr rfl), e]
    simp only
    rw [if_neg (fun q => q.1 trivial), if_neg (fun q => by have := q.2; omega), if_pos trivial]
    congr 1
    omega
  · rename_i h
    have e : parseMag (decDigits n.toNat) = .ok n.toNat := mag_dec (by omega)
    have hd := dec_digs n.toNat
    revert e hd
    cases hL : decDigits n.toNat with
    | nil => exact absurd hL (dec_ne _)
    | cons c r =>
      intro e hd
      have hc := hd c (by simp)
      simp only [atoiAll]
      rw [if_neg (by omega), e]
      simp only
      rw [if_neg (by omega), if_neg (by omega), if_neg (by omega)]
      congr 1
      omega
/-- a number as Itoa has it, of at most 11 bytes -/
def numL (l : List UInt8) : Option Int := match atoiAll l with | .ok v => if l.length ≤ 11 ∧ itoa v = l then some v else none | _ => none
theorem numL_some {l : List UInt8} {v : Int} (h : numL l = some v) : itoa v = l ∧ l.length ≤ 11 ∧ atoiAll l = .ok v := by
  unfold numL at h
  split at h
  · rename_i u hu
    split at h
    · rename_i q
      injection h with h
      subst h
      exact ⟨q.2, q.1, hu⟩
    · cases h
  · cases h
theorem itoa_len_val {n : Int} (h0 : -1000000000 ≤ n) (h1 : n ≤ 1000000000) : (itoa n).length ≤ 11 := by
  have key : ∀ u : Nat, u ≤ 1000000000 → nDigits u ≤ 10 := by
    intro u hu
    by_cases h : nDigits u ≤ 10
    · exact h
    · exfalso
      have g : ∀ k u, nDigits u = k + 1 → 1 ≤ k → 10 ^ k ≤ u := by
        intro k
        induction k with
        | zero => intro u _ h; omega
        | succ k ih =>
          intro u h _
          by_cases hs : u < 10
          · rw [nDigits_small hs] at h; omega
          · rw [nDigits_big hs] at h
            by_cases hk : k = 0
            · subst hk; simp; omega
            · have := ih (u / 10) (by omega) (by omega)
              rw [Nat.pow_succ]; omega
      have p := nDigits_pos u
      have := g (nDigits u - 1) u (by omega) (by omega)
      have : 10 ^ 10 ≤ 10 ^ (nDigits u - 1) := Nat.pow_le_pow_right (by omega) (by omega)
      omega
  unfold itoa
  split
  · simp only [List.length_cons, decDigits_length]; have := key n.natAbs (by omega); omega
  · rw [decDigits_length]; have := key n.toNat (by omega); omega
theorem numL_itoa {n : Int} (h0 : -1000000000 ≤ n) (h1 : n ≤ 1000000000) : numL (itoa n) = some n := by
  unfold numL
  rw [atoi_itoa (by omega) (by omega)]
  simp only
  rw [if_pos ⟨itoa_len_val h0 h1, trivial⟩]
/-! pieces -/
/-- the pieces between the bytes c -/
def psp (c : UInt8) : List UInt8 → List (List UInt8)
  | [] => [[]]
  | b :: l => if b = c then [] :: psp c l else (b :: (psp c l).headD []) :: (psp c l).tail
/-- put together again -/
def jn (c : UInt8) : List (List UInt8) → List UInt8
  | [] => []
  | x :: r => x ++ r.flatMap (c :: ·)
theorem psp_ne (c : UInt8) (l : List UInt8) : psp c l ≠ [] := by
  cases l <;> simp [psp] <;> split <;> simp
theorem psp_cons (c : UInt8) (l : List UInt8) : psp c l = (psp c l).headD [] :: (psp c l).tail := by
  have := psp_ne c l
  cases h : psp c l with
  | nil => exact absurd h this
  | cons a b => rfl
theorem jn_psp (c : UInt8) : ∀ l, jn c (psp c l) = l
  | [] => rfl
  | b :: l => by
    have ih := jn_psp c l
    rw [psp_cons] at ih
    simp only [jn] at ih
    simp only [psp]
    split
    · rename_i h
      subst h
      rw [jn, psp_cons, List.nil_append, List.flatMap_cons, List.cons_append, ih]
    · rw [jn, List.cons_append, ih]
theorem psp_none {c : UInt8} : ∀ {l : List UInt8}, c ∉ l → psp c l = [l]
  | [], _ => rfl
  | b :: l, h => by
    have hb : b ≠ c := fun e => h (by simp [e])
    have := psp_none (c := c) (l := l) (fun q => h (by simp [q]))
    simp [psp, hb, this]
theorem psp_app {c : UInt8} : ∀ {x : List UInt8}, c ∉ x → ∀ r, psp c (x ++ c :: r) = x :: psp c r
  | [], _, r => by simp [psp]
  | b :: x, h, r => by
    have hb : b ≠ c := fun e => h (by simp [e])
    have := psp_app (c := c) (x := x) (fun q => h (by simp [q])) r
    simp [psp, hb, this]
theorem psp_mem {c : UInt8} : ∀ (l : List UInt8), ∀ p ∈ psp c l, c ∉ p
  | [], p, h => by simp [psp] at h; simp [h]
  | b :: l, p, h => by
    have ih := psp_mem (c := c) l
    simp only [psp] at h
    split at h
    · rcases List.mem_cons.1 h with rfl | h
      · simp
      · exact ih p h
    · rename_i hb
      rcases List.mem_cons.1 h with rfl | h
      · have := ih ((psp c l).headD []) (by rw [psp_cons]; simp)
        intro q
        rcases List.mem_cons.1 q with q | q
        · exact hb q.symm
        · exact this q
      · exact ih p (by rw [psp_cons]; exact List.mem_cons_of_mem _ h)
theorem psp_sub {c : UInt8} : ∀ (l : List UInt8), ∀ p ∈ psp c l, p.length ≤ l.length
  | [], p, h => by simp [psp] at h; simp [h]
  | b :: l, p, h => by
    have ih := psp_sub (c := c) l
    simp only [psp] at h
    split at h
    · rcases List.mem_cons.1 h with rfl | h
      · simp
      · have := ih p h; simp; omega
    · rcases List.mem_cons.1 h with rfl | h
      · have := ih ((psp c l).headD []) (by rw [psp_cons]; simp)
        simp only [List.length_cons]; omega
      · have := ih p (by rw [psp_cons]; exact List.mem_cons_of_mem _ h); simp; omega
theorem splitK_psp (c : UInt8) : ∀ l : List UInt8, splitK [c] 0 (count l [c]) l = psp c l
  | [] => by simp [count, countFrom, index, splitK, psp]
  | b :: l => by
    have ih := splitK_psp c l
    by_cases hb : b = c
    · subst hb
      rw [count_cons_eq, Nat.add_comm]
      have e : index (b :: l) [b] = 0 := by simp [index, List.isPrefixOf]
      simp [splitK, e, psp, ih]
    · rw [count_cons_ne b c l hb]
      have hp : (b == c) = false := by simpa using hb
      have hcb : (c == b) = false := by simp; exact fun e => hb e.symm
      have e : index (b :: l) [c] = if index l [c] == -1 then -1 else index l [c] + 1 := by
        simp [index, List.isPrefixOf, hcb]
      have hge := index_ge l [c]
      simp only [psp, if_neg hb]
      cases hk : count l [c] with
      | zero =>
        rw [hk] at ih
        simp only [splitK] at ih ⊢
        rw [← ih]; rfl
      | succ k =>
        rw [hk] at ih
        have hne : ¬ index l [c] = -1 := by
          intro q
          rw [count_miss q] at hk; cases hk
        simp only [splitK] at ih ⊢
        rw [if_neg (by simp only [beq_iff_eq]; exact hne)] at ih
        have h1 : (index l [c] == -1) = false := by simp only [beq_eq_false_iff_ne]; exact hne
        have h2 : (index l [c] + 1 == -1) = false := by simp only [beq_eq_false_iff_ne]; omega
        simp only [e, h1, h2, Bool.false_eq_true, if_false]
        rw [← ih]
        obtain ⟨i, hi⟩ : ∃ i : Nat, index l [c] = i := ⟨(index l [c]).toNat, by omega⟩
        rw [hi, show ((i : Int) + 1).toNat = i + 1 by omega, show ((i : Nat) : Int).toNat = i by omega]
        simp [Nat.add_right_comm]
theorem splitB_psp (s : ByteArray) (c : UInt8) : (splitB ⟨#[c]⟩ 0 (countB s ⟨#[c]⟩) s).map (·.data.toList) = psp c s.data.toList := by
  rw [splitB_data]; exact splitK_psp c s.data.toList
end Go.Proofs.YtnepdfpooobmcaaGreatDoor
