/- Contracts and lemmas for the proof of TextDeed; each theorem states its own conditions. -/
import Derived.Test.YtnepdfpooobmcaaDoorQTextDeedat
set_option linter.unusedVariables false
set_option linter.unusedSimpArgs false
/- Contracts and lemmas for the proofs of this seat; each theorem states its own conditions. -/
namespace Go.Proofs.YtnepdfpooobmcaaDoor
open Go.RowKit
/-! text.Map, text.ReadMap -/
theorem bA_eq {a b : ByteArray} (h : a.data.toList = b.data.toList) : a = b := by rw [← bA_data a, h, bA_data]
theorem rSt {a b : ByteArray} (h : a = b) : Value.string a = Value.string b := by rw [h]
theorem rIn {a b : Int} (h : a = b) : Value.int .i64 a = Value.int .i64 b := by rw [h]
theorem bA_size (l : List UInt8) : (bA l).size = l.length := by simp [bA, ← ByteArray.size_data]
theorem key_size {k : ByteArray} (h : keyB k = true) : k.size ≤ 6 := by
  simp only [keyB, Bool.and_eq_true, decide_eq_true_eq] at h
  exact h.1.2
theorem toL_len (s : ByteArray) : s.data.toList.length = s.size := by simp [← ByteArray.size_data]
theorem itoa_len21 {n : Int} (h0 : -9223372036854775808 ≤ n) (h1 : n ≤ 9223372036854775807) : (Lib.itoa n).length ≤ 21 := Lib.itoa_length_le n h0 h1
end Go.Proofs.YtnepdfpooobmcaaDoor
