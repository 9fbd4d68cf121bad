/- Contracts and lemmas for the proof of ShardFind; each theorem states its own conditions. -/
import Derived.Test.YtnepdfpooobmcaaDoorQShardFindap
import Derived.Test.YtnepdfpooobmcaaDoorQShardFindak
import Derived.Shelf.Strings.MapGrows
set_option linter.unusedVariables false
set_option linter.unusedSimpArgs false
/- Contracts and lemmas for the proofs of this seat; each theorem states its own conditions. -/
namespace Go.Proofs.YtnepdfpooobmcaaDoor
open Go.RowKit
/-! ShardFind: plain laws -/
/-- what letters makes of a rune -/
def letF (x : Int) : Int := if x < 97 ∨ 122 < x then -1 else x
theorem enc_let {x : Int} (h : 0 ≤ letF x) : ∀ c ∈ Lib.encodeRune (letF x), letB c = true := by
  unfold letF at h ⊢
  split at h
  · omega
  · rename_i hx
    rw [if_neg hx, Lib.encodeRune, Lib.encodeRuneZ_one (by omega) (by omega)]
    intro c hc
    simp only [List.map_cons, List.map_nil, List.mem_singleton] at hc
    subst hc
    obtain ⟨n, rfl⟩ : ∃ n : Nat, x = n := ⟨x.toNat, by omega⟩
    have h1 : (UInt8.ofNat n).toNat = n := by rw [UInt8.toNat_ofNat']; omega
    have e : (n : Int).toNat.toUInt8 = UInt8.ofNat n := rfl
    rw [e]
    simp only [letB, Bool.and_eq_true, decide_eq_true_eq, UInt8.le_iff_toNat_le, h1]
    constructor
    · show 97 ≤ n; omega
    · show n ≤ 122; omega
theorem mapD_let : ∀ (n : Nat) (l : List UInt8), l.length ≤ n → ∀ c ∈ Lib.mapD letF l, letB c = true
  | 0, l, h, c, hc => by
    obtain rfl : l = [] := List.length_eq_zero_iff.1 (by omega)
    rw [Lib.mapD_nil] at hc
    cases hc
  | n + 1, l, h, c, hc => by
    by_cases hl : l = []
    · subst hl
      rw [Lib.mapD_nil] at hc
      cases hc
    · rw [Lib.mapD_step _ _ hl] at hc
      have hw := Lib.decodeL_width l
      have hpos : 0 < l.length := List.length_pos_iff.2 hl
      rcases List.mem_append.1 hc with hc | hc
      · split at hc
        · rename_i h0
          exact enc_let h0 c hc
        · cases hc
      · exact mapD_let n _ (by rw [List.length_drop]; omega) c hc
/-- a piece of letters, if there is any -/
theorem piece_key {t : ByteArray} (h : ∀ c ∈ t.data.toList, letB c = true) {k : Nat} (hk : k ≤ 6) (hk1 : 1 ≤ k) (hk2 : k ≤ t.size) : keyB (t.extract 0 k) = true := by
  have hsz : (t.extract 0 k).size = k := by rw [ByteArray.size_extract]; omega
  have hl : (t.extract 0 k).toList.length = k := by rw [size_toList, hsz]
  have hd : (t.extract 0 k).data.toList = t.data.toList.take k := by
    rw [ByteArray.data_extract, Array.toList_extract, List.extract_eq_take_drop]
    simp
  unfold keyB
  have h1 : (t.extract 0 k).toList.isEmpty = false := by
    cases hq : (t.extract 0 k).toList with
    | nil => rw [hq] at hl; simp at hl; omega
    | cons a r => rfl
  rw [h1, hsz, toList_data, hd]
  simp only [Bool.not_false, Bool.true_and, Bool.and_eq_true, decide_eq_true_eq, List.all_eq_true]
  exact ⟨hk, fun c hc => h c (List.mem_of_mem_take hc)⟩
theorem takeWhile_same {p q : Nat → Bool} : ∀ {l : List Nat}, (∀ i ∈ l, p i = q i) → l.takeWhile p = l.takeWhile q
  | [], _ => rfl
  | i :: l, h => by
    have := takeWhile_same (p := p) (q := q) (l := l) (fun j hj => h j (by simp [hj]))
    rw [List.takeWhile_cons, List.takeWhile_cons, h i (by simp), this]
/-- between two keys that no cut separates there is no owner's end -/
theorem whose_apart {C : List ByteArray} {O : List Int} {a b : ByteArray} (h : (C.any fun k => blt a k != blt b k) = false) : whose C O a = whose C O b := by
  have e : idx (leAt C a) C.length = idx (leAt C b) C.length := by
    unfold idx
    rw [takeWhile_same]
    intro i hi
    have hi' : i < C.length := List.mem_range.1 hi
    have h2 := (List.any_eq_false.1 h) C[i] (List.getElem_mem hi')
    unfold leAt
    rw [kAt_eq hi']
    simpa using h2
  unfold whose
  rw [e]
end Go.Proofs.YtnepdfpooobmcaaDoor
