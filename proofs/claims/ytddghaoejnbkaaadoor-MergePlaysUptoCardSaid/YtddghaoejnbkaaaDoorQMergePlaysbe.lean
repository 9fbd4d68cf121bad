/- Contracts and lemmas for the proof of MergePlays; each theorem states its own conditions. -/
import Derived.Test.YtddghaoejnbkaaaDoorQMergePlaysbd
import Derived.Test.YtddghaoejnbkaaaDoorQMergePlaysag
import Derived.Test.YtddghaoejnbkaaaDoorQMergePlaysam
import Derived.Lib.SlTrimSet
import Derived.Test.YtddghaoejnbkaaaDoorQMergePlaysaa
set_option linter.unusedVariables false
set_option linter.unusedSimpArgs false
/- Contracts and lemmas for the proofs of this seat; each theorem states its own conditions. -/
namespace Go.Proofs.YtddghaoejnbkaaaDoor
open Go.RowKit
/-! the document's Key, Map, Whose -/
theorem rwithin_any (x a b : Int) (w : World) : Calls Tryd.prog 34 #[.int .i64 x, .int .i64 a, .int .i64 b] w fun e w' => e = .returned (.bool (decide (a ≤ x) && decide (x ≤ b))) ∧ w' = w := by
  by_cases h1 : a ≤ x
  · have d1 : decide (a ≤ x) = true := by simp [h1]
    have d2 : decide (x ≥ a) = true := by simp; omega
    go_enter Tryd.func34, Tryd.ntmps34
    go_wp2
    go_ret
    exact ⟨rB (by simp [h1]), rfl⟩
  · have d1 : decide (a ≤ x) = false := by simp; omega
    have d2 : decide (x ≥ a) = false := by simp; omega
    have d3 : ¬ (x ≥ a) := by omega
    go_enter Tryd.func34, Tryd.ntmps34
    go_wp2
    go_ret
    exact ⟨rB (by simp [h1]), rfl⟩
def alphaB : List UInt8 := [97, 98, 99, 100, 101, 102, 103, 104, 105, 106, 107, 108, 109, 110, 111, 112, 113, 114, 115, 116, 117, 118, 119, 120, 121, 122]
theorem alpha_let (c : UInt8) : alphaB.contains c = letB c := by
  have h : ∀ n : Fin 256, alphaB.contains (UInt8.ofNat n.val) = letB (UInt8.ofNat n.val) := by decide +kernel
  have := h ⟨c.toNat, c.toNat_lt⟩
  simpa using this
theorem dropWhile_nil {α : Type} {p : α → Bool} : ∀ {l : List α}, l.dropWhile p = [] ↔ l.all p = true
  | [] => by simp
  | x :: l => by
    rw [List.dropWhile_cons, List.all_cons]
    cases h : p x
    · simp
    · simp [dropWhile_nil (l := l)]
theorem all_rev {α : Type} (p : α → Bool) (l : List α) : l.reverse.all p = l.all p := by
  rw [Bool.eq_iff_iff, List.all_eq_true, List.all_eq_true]; simp
theorem drop_sub {α : Type} (p : α → Bool) : ∀ (l : List α), (l.dropWhile p).all p = l.all p
  | [] => rfl
  | x :: l => by
    rw [List.dropWhile_cons]
    cases h : p x
    · simp
    · simp [h, drop_sub p l]
theorem trim_nil (l cs : List UInt8) : Lib.trimS l cs = [] ↔ l.all (cs.contains ·) = true := by
  unfold Lib.trimS Lib.trimLeftS Lib.trimRightS
  rw [dropWhile_nil, all_rev, drop_sub, all_rev]
theorem key_trim {s : ByteArray} (h1 : 1 ≤ s.size) (h2 : s.size ≤ 6) : keyB s = decide (Lib.trimS s.data.toList alphaB = []) := by
  rw [Bool.eq_iff_iff, decide_eq_true_eq, trim_nil]
  have hne : s.toList.isEmpty = false := by
    have := size_toList s
    cases e : s.toList with
    | nil => rw [e] at this; simp at this; omega
    | cons a l => rfl
  have hal : s.toList.all letB = s.data.toList.all (alphaB.contains ·) := by
    rw [toList_data]; congr 1; funext c; exact (alpha_let c).symm
  simp [keyB, hne, h2, hal]
theorem info116 : (Tryd.prog.info? 83).map (fun i => (i.zero, i.size)) = some (some (.agg (Array.replicate 256 (.bool false))), 256) := by kernel_rfl
set_option maxRecDepth 10000 in
theorem rkey_any (s : ByteArray) (w : World) (hs : s.size ≤ 9223372036854775807) : Calls Tryd.prog 44 #[.string s] w fun e w' => e = .returned (.bool (keyB s)) ∧ Ext w w' := by
  have WI := hid (rwithin_any (s.size : Int) 1 6 w)
  by_cases h : 1 ≤ s.size ∧ s.size ≤ 6
  · obtain ⟨h1, h2⟩ := h
    have TR0 : Calls Tryd.prog 51 #[.string s, .string ⟨#[97, 98, 99, 100, 101, 102, 103, 104, 105, 106, 107, 108, 109, 110, 111, 112, 113, 114, 115, 116, 117, 118, 119, 120, 121, 122]⟩] w fun e w' => e = .returned (.string ⟨(Lib.trimS s.data.toList alphaB).toArray⟩) ∧ Ext w w' := Go.Proofs.Any.strings_Trim_laid lays160 info116 s ⟨alphaB.toArray⟩ w hs (by decide) (ascii_of_all (by decide))
    have hk0 := key_trim h1 h2
    generalize Lib.trimS s.data.toList alphaB = T at TR0 hk0
    have TR := hid TR0
    have hk := hid hk0
    clear TR0 hk0
    have q1 : decide ((1 : Int) ≤ (s.size : Int)) = true := by simp; omega
    have q2 : decide ((s.size : Int) ≤ 6) = true := by simp; omega
    go_enter Tryd.func44, Tryd.ntmps44
    go_wp2_with fail
    refine (WI.out).mono ?_
    rintro e w' ⟨rfl, rfl⟩
    cases T with
    | nil =>
      have TR2 := hid TR.out
      go_wp2_with fail
      refine (TR2.out).mono ?_
      rintro e w1 ⟨rfl, E1⟩
      go_wp2
      go_ret
      exact ⟨rB (by rw [hk.out]; rfl), E1⟩
    | cons x T =>
      have TR2 := hid TR.out
      obtain ⟨str, hstr⟩ : ∃ str : ByteArray, (⟨(x :: T).toArray⟩ : ByteArray) = str := ⟨_, rfl⟩
      have hne : ¬ str.toList = [] := by rw [← hstr, toList_data]; simp
      have hne2 : str.toList.isEmpty = false := by simpa using hne
      go_wp2_with fail
      refine (TR2.out).mono ?_
      rw [hstr]
      rintro e w1 ⟨rfl, E1⟩
      go_wp2
      go_ret
      exact ⟨rB (by rw [hk.out]; simp), E1⟩
  · have hk : keyB s = false := by
      by_cases h1 : s.size ≤ 6
      · have : s.toList = [] := by have := size_toList s; exact List.eq_nil_of_length_eq_zero (by omega)
        exact key_false1 this
      · exact key_false2 (by omega)
    have q : (decide ((1 : Int) ≤ (s.size : Int)) && decide ((s.size : Int) ≤ 6)) = false := by simp; omega
    rw [q] at WI
    have WI2 := hid WI.out
    go_enter Tryd.func44, Tryd.ntmps44
    go_wp2_with fail
    refine (WI2.out).mono ?_
    rintro e w' ⟨rfl, rfl⟩
    go_wp2
    go_ret
    exact ⟨rB hk.symm, Ext.refl _⟩
end Go.Proofs.YtddghaoejnbkaaaDoor

/- Contracts and lemmas for the proofs of this seat; each theorem states its own conditions. -/
namespace Go.Proofs.YtddghaoejnbkaaaDoor
open Go.RowKit
/-! blocks of one cell -/
theorem blk1 {w : World} {b : Nat} {x : Value} {t : TypeId} (h : w.heap[b]? = some (.cells #[x] t (0, 0))) : w.cell? ⟨b, 0, none⟩ = some x ∧ w.frozen? ⟨b, 0, none⟩ = false := by
  simp [World.cell?, World.frozen?, h]
theorem blk1_set {w : World} {b : Nat} {x : Value} {t : TypeId} (h : w.heap[b]? = some (.cells #[x] t (0, 0))) (u : Value) : (w.setCell ⟨b, 0, none⟩ u).heap[b]? = some (.cells #[u] t (0, 0)) := by
  simp [World.setCell, Array.getElem?_modify, h]
end Go.Proofs.YtddghaoejnbkaaaDoor
