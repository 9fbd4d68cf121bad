/- Contracts and lemmas for the proof of TextDeed; each theorem states its own conditions. -/
import Derived.Test.YtnepdfpooobmcaaDoorQTextDeedam
set_option linter.unusedVariables false
set_option linter.unusedSimpArgs false
/- Contracts and lemmas for the proofs of this seat; each theorem states its own conditions. -/
namespace Go.Proofs.YtnepdfpooobmcaaDoor
/-! stores, in plain lists -/
abbrev Prs := List (ByteArray × Int)
/-- with a value of a key (0: without it) -/
def withP : Prs → ByteArray → Int → Prs
  | [], k, n => if n = 0 then [] else [(k, n)]
  | p :: l, k, n => if blt p.1 k then p :: withP l k n else if p.1 = k then (if n = 0 then l else (k, n) :: l) else (if n = 0 then p :: l else (k, n) :: p :: l)
/-! P4 -/
def valB (n : Int) : Bool := decide (-1000000000 ≤ n) && decide (n ≤ 1000000000)
/-- the first that is no nought -/
def firstE (f : Nat → Int) : Nat → Int
  | 0 => 0
  | n + 1 => if firstE f n = 0 then f n else firstE f n
theorem firstE_zero {f : Nat → Int} : ∀ {n : Nat}, (∀ j, j < n → f j = 0) → firstE f n = 0
  | 0, _ => rfl
  | n + 1, h => by rw [firstE, firstE_zero (fun j hj => h j (by omega)), if_pos rfl]; exact h n (by omega)
theorem firstE_at {f : Nat → Int} {k : Nat} (h : ∀ j, j < k → f j = 0) (hk : f k ≠ 0) : ∀ {n : Nat}, k < n → firstE f n = f k
  | 0, hn => absurd hn (by omega)
  | n + 1, hn => by
    rcases Nat.lt_succ_iff_lt_or_eq.1 hn with h' | h'
    · have := firstE_at h hk h'
      rw [firstE, this, if_neg hk]
    · subst h'; rw [firstE, firstE_zero h, if_pos rfl]
theorem firstE_all {f : Nat → Int} : ∀ {n : Nat}, firstE f n = 0 → ∀ j, j < n → f j = 0
  | 0, _, j, hj => absurd hj (by omega)
  | n + 1, h, j, hj => by
    rw [firstE] at h
    split at h
    · rename_i h0
      rcases Nat.lt_succ_iff_lt_or_eq.1 hj with k | k
      · exact firstE_all h0 j k
      · subst k; exact h
    · contradiction
end Go.Proofs.YtnepdfpooobmcaaDoor
