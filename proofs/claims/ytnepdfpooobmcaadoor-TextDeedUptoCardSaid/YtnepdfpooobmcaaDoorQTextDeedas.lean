/- Contracts and lemmas for the proof of TextDeed; each theorem states its own conditions. -/
import Derived.Test.YtnepdfpooobmcaaDoorQTextDeedak
import Derived.Test.YtnepdfpooobmcaaDoorQTextDeedar
set_option linter.unusedVariables false
set_option linter.unusedSimpArgs false
/- Contracts and lemmas for the proofs of this seat; each theorem states its own conditions. -/
namespace Go.Proofs.YtnepdfpooobmcaaDoor
open Go.Lib
/-! maps as text, in plain lists -/
def bA (l : List UInt8) : ByteArray := ⟨l.toArray⟩
theorem bA_data (k : ByteArray) : bA k.data.toList = k := by simp [bA]
theorem bA_toL (l : List UInt8) : (bA l).data.toList = l := by simp [bA]
theorem key_let {k : ByteArray} (h : keyB k = true) : ∀ c ∈ k.data.toList, letB c = true := by
  simp only [keyB, Bool.and_eq_true, List.all_eq_true] at h
  rw [← toList_data]; exact h.2
theorem let_ne {c d : UInt8} (h : letB c = true) (hd : letB d = false) : c ≠ d := fun e => by rw [e, hd] at h; cases h
theorem num_ne {c d : UInt8} (h : numB c = true) (hd : numB d = false) : c ≠ d := fun e => by rw [e, hd] at h; cases h
theorem key_not {k : ByteArray} (h : keyB k = true) (d : UInt8) (hd : letB d = false) : d ∉ k.data.toList := fun q => let_ne (key_let h d q) hd rfl
theorem itoa_not (n : Int) (d : UInt8) (hd : numB d = false) : d ∉ itoa n := fun q => num_ne (itoa_numB n d q) hd rfl
/-- the pieces of a string between the bytes c -/
def pcs (s : ByteArray) (c : UInt8) : List ByteArray := splitB ⟨#[c]⟩ 0 (countB s ⟨#[c]⟩) s
theorem pcs_psp (s : ByteArray) (c : UInt8) : (pcs s c).map (·.data.toList) = psp c s.data.toList := splitB_psp s c
theorem pcs_len (s : ByteArray) (c : UInt8) : (pcs s c).length = countB s ⟨#[c]⟩ + 1 := by
  have := splitB_all ⟨#[c]⟩ (Nat.le_refl 1) 0 (countB s ⟨#[c]⟩) s rfl
  exact this
theorem pcs_mem {s : ByteArray} {c : UInt8} {w : ByteArray} (h : w ∈ pcs s c) : w.size ≤ s.size ∧ c ∉ w.data.toList := by
  have hm : w.data.toList ∈ psp c s.data.toList := by rw [← pcs_psp]; exact List.mem_map_of_mem h
  have := psp_sub _ _ hm
  exact ⟨by simpa [← ByteArray.size_data] using this, psp_mem _ _ hm⟩
end Go.Proofs.YtnepdfpooobmcaaDoor
