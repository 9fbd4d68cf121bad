/- Contracts and lemmas for the proof of ShardFind; each theorem states its own conditions. -/
import Derived.Test.YtnepdfpooobmcaaDoorQShardFindaa
import Derived.WalkLawsBesides
set_option linter.unusedVariables false
set_option linter.unusedSimpArgs false
/- Contracts and lemmas for the proofs of this seat; each theorem states its own conditions. -/
namespace Go.Proofs.YtnepdfpooobmcaaDoor
open Go.RowKit
example : DecidableEq ByteArray := inferInstance
/-- strings in order -/
def blt (a b : ByteArray) : Bool := Op.bytesLess a.toList b.toList
theorem toList_data (s : ByteArray) : s.toList = s.data.toList := ByteArray.toList_eq s
theorem size_toList (s : ByteArray) : s.toList.length = s.size := by rw [toList_data, Array.length_toList]; rfl
theorem toList_inj {a b : ByteArray} (h : a.toList = b.toList) : a = b := by
  rw [toList_data, toList_data] at h
  cases a with | mk a => cases b with | mk b => simp at h; simp [h]
/-- a letter -/
def letB (c : UInt8) : Bool := 97 ≤ c && c ≤ 122
/-- P3 -/
def keyB (s : ByteArray) : Bool := !s.toList.isEmpty && decide (s.size ≤ 6) && s.toList.all letB
theorem key_false1 {s : ByteArray} (h : s.toList = []) : keyB s = false := by simp [keyB, h]
theorem key_false2 {s : ByteArray} (h : 6 < (s.size : Int)) : keyB s = false := by
  have : ¬ s.size ≤ 6 := by omega
  simp [keyB, this]
theorem key_false3 {s : ByteArray} (k : Nat) (hk : k < s.size) (h : (s[k].toNat : Int) < 97 ∨ 122 < (s[k].toNat : Int)) : keyB s = false := by
  have : s.toList.all letB = false := by
    rw [List.all_eq_false]
    refine ⟨s[k], ?_, ?_⟩
    · rw [toList_data]; exact Array.getElem_mem_toList (xs := s.data) (by exact hk)
    · simp [letB, UInt8.le_iff_toNat_le]; omega
  simp [keyB, this]
/-- the first k bytes are letters -/
def letTo (s : ByteArray) (k : Nat) : Prop := ∀ j, (hj : j < s.size) → j < k → 97 ≤ (s[j].toNat : Int) ∧ (s[j].toNat : Int) ≤ 122
theorem letTo_zero (s : ByteArray) : letTo s 0 := fun j _ h => absurd h (by omega)
theorem letTo_step {s : ByteArray} {k : Nat} (h : letTo s k) (hk : k < s.size) (h1 : 97 ≤ (s[k].toNat : Int)) (h2 : (s[k].toNat : Int) ≤ 122) : letTo s (k + 1) := by
  intro j hj hjk
  rcases Nat.lt_succ_iff_lt_or_eq.1 hjk with h3 | h3
  · exact h j hj h3
  · subst h3; exact ⟨h1, h2⟩
theorem key_true {s : ByteArray} (h1 : ¬ s.toList = []) (h2 : (s.size : Int) ≤ 6) (h : letTo s s.size) : keyB s = true := by
  have h3 : s.size ≤ 6 := by omega
  have : s.toList.all letB = true := by
    rw [List.all_eq_true]
    intro c hc
    rw [toList_data, List.mem_iff_getElem] at hc
    obtain ⟨k, hk, rfl⟩ := hc
    have hk' : k < s.size := by simpa using hk
    have := h k hk' hk'
    have e : s.data.toList[k] = s[k]'(by simpa using hk) := rfl
    rw [e]
    simp [letB, UInt8.le_iff_toNat_le]; omega
  simp [keyB, this, h3]
  simpa using h1

/-! lists as cells -/
def cI (l : List Int) : List Value := l.map (Value.int .i64)
def cS (l : List ByteArray) : List Value := l.map Value.string
def cB (l : List Bool) : List Value := l.map Value.bool
theorem cI_len (l : List Int) : (cI l).length = l.length := by simp [cI]
theorem cI_at0 (l : List Int) (k : Nat) (hk : k < l.length) : (cI l)[k]? = some (.int .i64 l[k]) := by simp [cI, hk]
theorem cS_at0 (l : List ByteArray) (k : Nat) (hk : k < l.length) : (cS l)[k]? = some (.string l[k]) := by simp [cS, hk]
/-- an operation of a deed -/
structure GOp where
  kind : Int
  key : ByteArray
  from_ : ByteArray
  n : Int
deriving DecidableEq
def cO (l : List GOp) : List Value := l.flatMap fun p => [.int .i64 p.kind, .string p.key, .string p.from_, .int .i64 p.n]
/-! searching loops -/
def allTo (p : Nat → Bool) (k : Nat) : Prop := ∀ i, i < k → p i = true
theorem allTo_zero (p : Nat → Bool) : allTo p 0 := fun i h => absurd h (by omega)
theorem allTo_succ {p : Nat → Bool} {k : Nat} (h : allTo p k) (hk : p k = true) : allTo p (k + 1) := by
  intro i hi
  rcases Nat.lt_succ_iff_lt_or_eq.1 hi with h3 | h3
  · exact h i h3
  · subst h3; exact hk
theorem all_true {p : Nat → Bool} {n : Nat} (h : allTo p n) : (List.range n).all p = true := by
  rw [List.all_eq_true]; intro x hx; exact h x (List.mem_range.1 hx)
theorem all_false {p : Nat → Bool} {n k : Nat} (hk : k < n) (h : p k = false) : (List.range n).all p = false := by
  rw [List.all_eq_false]; exact ⟨k, List.mem_range.2 hk, by simp [h]⟩
theorem allTo_of {p : Nat → Bool} {n : Nat} (h : (List.range n).all p = true) : allTo p n := by
  rw [List.all_eq_true] at h; exact fun i hi => h i (List.mem_range.2 hi)

/-- i is where what p holds of ends -/
def cutAt (p : Nat → Bool) (n i : Nat) : Prop := i ≤ n ∧ (∀ j, j < i → p j = true) ∧ (∀ j, i ≤ j → j < n → p j = false)
/-- p holds of a beginning -/
def dropsB (p : Nat → Bool) (n : Nat) : Prop := ∀ i j, i < j → j < n → p j = true → p i = true
/-- the invariant of a binary search -/
def bsInv (p : Nat → Bool) (n i j : Nat) : Prop := i ≤ j ∧ j ≤ n ∧ (∀ x, x < i → p x = true) ∧ (∀ x, j ≤ x → x < n → p x = false)
theorem bsInv_start (p : Nat → Bool) (n : Nat) : bsInv p n 0 n := ⟨Nat.zero_le _, Nat.le_refl _, fun _ h => absurd h (by omega), fun _ h h' => absurd h' (by omega)⟩
theorem bsInv_up {p : Nat → Bool} {n i j : Nat} (hd : dropsB p n) (h : bsInv p n i j) (hij : i < j) (hp : p ((i + j) / 2) = true) : bsInv p n ((i + j) / 2 + 1) j := by
  obtain ⟨h1, h2, h3, h4⟩ := h
  refine ⟨by omega, h2, fun x hx => ?_, h4⟩
  rcases Nat.lt_succ_iff_lt_or_eq.1 hx with h | h
  · exact hd x _ h (by omega) hp
  · subst h; exact hp
theorem bsInv_down {p : Nat → Bool} {n i j : Nat} (hd : dropsB p n) (h : bsInv p n i j) (hij : i < j) (hp : p ((i + j) / 2) = false) : bsInv p n i ((i + j) / 2) := by
  obtain ⟨h1, h2, h3, h4⟩ := h
  refine ⟨by omega, by omega, h3, fun x hx hxn => ?_⟩
  rcases Nat.eq_or_lt_of_le hx with h | h
  · subst h; exact hp
  · cases hpx : p x with
    | false => rfl
    | true => have := hd _ x h hxn hpx; rw [hp] at this; cases this
theorem bsInv_end {p : Nat → Bool} {n i : Nat} (h : bsInv p n i i) : cutAt p n i := ⟨h.2.1, h.2.2.1, h.2.2.2⟩
end Go.Proofs.YtnepdfpooobmcaaDoor
