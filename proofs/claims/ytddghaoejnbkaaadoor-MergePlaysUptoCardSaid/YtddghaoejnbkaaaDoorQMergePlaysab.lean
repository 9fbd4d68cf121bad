/- Contracts and lemmas for the proof of MergePlays; each theorem states its own conditions. -/
import Derived.Test.YtddghaoejnbkaaaDoorQMergePlaysaa
import Derived.WalkLawsBesides
set_option linter.unusedVariables false
set_option linter.unusedSimpArgs false
/- Contracts and lemmas for the proofs of this seat; each theorem states its own conditions. -/
namespace Go.Proofs.YtddghaoejnbkaaaDoor
open Go.RowKit
example : DecidableEq ByteArray := inferInstance
/-- strings in order -/
def blt (a b : ByteArray) : Bool := Op.bytesLess a.toList b.toList
theorem toList_data (s : ByteArray) : s.toList = s.data.toList := ByteArray.toList_eq s
theorem size_toList (s : ByteArray) : s.toList.length = s.size := by rw [toList_data, Array.length_toList]; rfl
theorem toList_inj {a b : ByteArray} (h : a.toList = b.toList) : a = b := by
  rw [toList_data, toList_data] at h
  cases a with | mk a => cases b with | mk b => simp at h; simp [h]
/-- a letter -/
def letB (c : UInt8) : Bool := 97 ≤ c && c ≤ 122
/-- P3 -/
def keyB (s : ByteArray) : Bool := !s.toList.isEmpty && decide (s.size ≤ 6) && s.toList.all letB
theorem key_false1 {s : ByteArray} (h : s.toList = []) : keyB s = false := by simp [keyB, h]
theorem key_false2 {s : ByteArray} (h : 6 < (s.size : Int)) : keyB s = false := by
  have : ¬ s.size ≤ 6 := by omega
  simp [keyB, this]
theorem key_false3 {s : ByteArray} (k : Nat) (hk : k < s.size) (h : (s[k].toNat : Int) < 97 ∨ 122 < (s[k].toNat : Int)) : keyB s = false := by
  have : s.toList.all letB = false := by
    rw [List.all_eq_false]
    refine ⟨s[k], ?_, ?_⟩
    · rw [toList_data]; exact Array.getElem_mem_toList (xs := s.data) (by exact hk)
    · simp [letB, UInt8.le_iff_toNat_le]; omega
  simp [keyB, this]
/-- the first k bytes are letters -/
def letTo (s : ByteArray) (k : Nat) : Prop := ∀ j, (hj : j < s.size) → j < k → 97 ≤ (s[j].toNat : Int) ∧ (s[j].toNat : Int) ≤ 122
theorem letTo_zero (s : ByteArray) : letTo s 0 := fun j _ h => absurd h (by omega)
theorem letTo_step {s : ByteArray} {k : Nat} (h : letTo s k) (hk : k < s.size) (h1 : 97 ≤ (s[k].toNat : Int)) (h2 : (s[k].toNat : Int) ≤ 122) : letTo s (k + 1) := by
  intro j hj hjk
  rcases Nat.lt_succ_iff_lt_or_eq.1 hjk with h3 | h3
  · exact h j hj h3
  · subst h3; exact ⟨h1, h2⟩
theorem key_true {s : ByteArray} (h1 : ¬ s.toList = []) (h2 : (s.size : Int) ≤ 6) (h : letTo s s.size) : keyB s = true := by
  have h3 : s.size ≤ 6 := by omega
  have : s.toList.all letB = true := by
    rw [List.all_eq_true]
    intro c hc
    rw [toList_data, List.mem_iff_getElem] at hc
    obtain ⟨k, hk, rfl⟩ := hc
    have hk' : k < s.size := by simpa using hk
    have := h k hk' hk'
    have e : s.data.toList[k] = s[k]'(by simpa using hk) := rfl
    rw [e]
    simp [letB, UInt8.le_iff_toNat_le]; omega
  simp [keyB, this, h3]
  simpa using h1

/-! lists as cells -/
def cI (l : List Int) : List Value := l.map (Value.int .i64)
def cS (l : List ByteArray) : List Value := l.map Value.string
theorem cI_len (l : List Int) : (cI l).length = l.length := by simp [cI]
theorem cI_one (l : List Int) : ∀ u ∈ cI l, u.oneCell' = true := by intro u hu; simp [cI] at hu; obtain ⟨a, _, rfl⟩ := hu; rfl
theorem cS_one (l : List ByteArray) : ∀ u ∈ cS l, u.oneCell' = true := by intro u hu; simp [cS] at hu; obtain ⟨a, _, rfl⟩ := hu; rfl
theorem cI_at0 (l : List Int) (k : Nat) (hk : k < l.length) : (cI l)[k]? = some (.int .i64 l[k]) := by simp [cI, hk]
theorem cS_at0 (l : List ByteArray) (k : Nat) (hk : k < l.length) : (cS l)[k]? = some (.string l[k]) := by simp [cS, hk]
/-- an operation of a deed -/
structure GOp where
  kind : Int
  key : ByteArray
  from_ : ByteArray
  n : Int
deriving DecidableEq
def cO (l : List GOp) : List Value := l.flatMap fun p => [.int .i64 p.kind, .string p.key, .string p.from_, .int .i64 p.n]
theorem cO_len (l : List GOp) : (cO l).length = l.length * 4 := by
  induction l with
  | nil => rfl
  | cons a l ih => simp [cO] at ih ⊢; omega
theorem cO_at (l : List GOp) (k : Nat) (hk : k < l.length) : (cO l)[k * 4]? = some (.int .i64 l[k].kind) ∧ (cO l)[k * 4 + 1]? = some (.string l[k].key) ∧ (cO l)[k * 4 + 2]? = some (.string l[k].from_) ∧ (cO l)[k * 4 + 3]? = some (.int .i64 l[k].n) := by
  induction l generalizing k with
  | nil => simp at hk
  | cons a l ih =>
    cases k with
    | zero => simp [cO]
    | succ k =>
      have := ih k (by simpa using hk)
      have e : (k + 1) * 4 = k * 4 + 1 + 1 + 1 + 1 := by omega
      simpa [cO, e] using this
theorem cO_at0 (l : List GOp) (k : Nat) (hk : k < l.length) : (cO l)[k * 4]? = some (.int .i64 l[k].kind) := (cO_at l k hk).1
theorem cO_at1 (l : List GOp) (k : Nat) (hk : k < l.length) : (cO l)[k * 4 + 1]? = some (.string l[k].key) := (cO_at l k hk).2.1
theorem cO_at2 (l : List GOp) (k : Nat) (hk : k < l.length) : (cO l)[k * 4 + 2]? = some (.string l[k].from_) := (cO_at l k hk).2.2.1
theorem cO_at3 (l : List GOp) (k : Nat) (hk : k < l.length) : (cO l)[k * 4 + 3]? = some (.int .i64 l[k].n) := (cO_at l k hk).2.2.2
theorem cO_one (l : List GOp) : ∀ u ∈ cO l, u.oneCell' = true := by
  intro u hu; simp only [cO, List.mem_flatMap, List.mem_cons, List.not_mem_nil, or_false] at hu; obtain ⟨a, _, rfl | rfl | rfl | rfl⟩ := hu <;> rfl
def opNe (a b : GOp) : Bool := !(decide (a = b))
theorem opNe_true {a b : GOp} (h : opNe a b = true) : a ≠ b := by simpa [opNe] using h
theorem opNe_false {a b : GOp} (h : opNe a b = false) : a = b := by simpa [opNe] using h
theorem str_ne {a b : ByteArray} (h : (!a.toList == b.toList) = true) : a ≠ b := by rintro rfl; simp at h
theorem str_eq {a b : ByteArray} (h : (!a.toList == b.toList) = false) : a = b := by simp at h; exact toList_inj h
theorem take_eq_step {α : Type} {l m : List α} {k : Nat} (hk : k < l.length) (hm : k < m.length) (h : l.take k = m.take k) (e : l[k] = m[k]) : l.take (k + 1) = m.take (k + 1) := by
  rw [List.take_succ_eq_append_getElem hk, List.take_succ_eq_append_getElem hm, h, e]

/-! searching loops -/
def allTo (p : Nat → Bool) (k : Nat) : Prop := ∀ i, i < k → p i = true
theorem allTo_zero (p : Nat → Bool) : allTo p 0 := fun i h => absurd h (by omega)
theorem allTo_succ {p : Nat → Bool} {k : Nat} (h : allTo p k) (hk : p k = true) : allTo p (k + 1) := by
  intro i hi
  rcases Nat.lt_succ_iff_lt_or_eq.1 hi with h3 | h3
  · exact h i h3
  · subst h3; exact hk
theorem all_true {p : Nat → Bool} {n : Nat} (h : allTo p n) : (List.range n).all p = true := by
  rw [List.all_eq_true]; intro x hx; exact h x (List.mem_range.1 hx)
theorem all_false {p : Nat → Bool} {n k : Nat} (hk : k < n) (h : p k = false) : (List.range n).all p = false := by
  rw [List.all_eq_false]; exact ⟨k, List.mem_range.2 hk, by simp [h]⟩
theorem allTo_of {p : Nat → Bool} {n : Nat} (h : (List.range n).all p = true) : allTo p n := by
  rw [List.all_eq_true] at h; exact fun i hi => h i (List.mem_range.2 hi)

end Go.Proofs.YtddghaoejnbkaaaDoor
