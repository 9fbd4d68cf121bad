/- Contracts and lemmas for the proof of DeedSays; each theorem states its own conditions. -/
import Derived.Shelf.Spec.SlicesInsert
import Derived.Shelf.Spec.SlicesInsertGrow
import Derived.Shelf.Slices.Turned
import Derived.Shelf.Slices.Empties2
import Derived.Ground.Names2Prog
import Derived.Test.YtijcckhkofkenaaDoorProg
import Derived.Test.YtijcckhkofkenaaDoorQDeedSaysaa
import Derived.Test.YtijcckhkofkenaaDoorQDeedSaysac
import Derived.Test.YtijcckhkofkenaaDoorQDeedSaysbh
import Derived.Test.YtijcckhkofkenaaDoorQDeedSaysbs
set_option linter.unusedVariables false
set_option linter.unusedSimpArgs false
/- Contracts and lemmas for the proofs of this seat; each theorem states its own conditions. -/
namespace Go.Proofs.YtijcckhkofkenaaDoor
open Go.Shelf
def lays2n22_ren : Go.Shelf.Ren := ⟨fun | 22 => 109 | 29 => 154 | 30 => 155 | 36 => 187 | 17 => 225 | n => n, fun | 24 => 26 | 9 => 9 | 3 => 3 | 4 => 4 | 0 => 0 | n => n, fun | n => n⟩
theorem lays2n22 : Go.Proofs.Lays2.n22 Tryd.prog lays2n22_ren := {
  mixed := by kernel_rfl
  f17 := Tryd.func225.trans (congrArg some (by kernel_rfl))
  f22 := Tryd.func109.trans (congrArg some (by kernel_rfl))
  f29 := Tryd.func154.trans (congrArg some (by kernel_rfl))
  f30 := Tryd.func155.trans (congrArg some (by kernel_rfl))
  f36 := Tryd.func187.trans (congrArg some (by kernel_rfl))
  t0 := Tryd.underlying0
  a0 := Tryd.isAgg0
  z0 := Tryd.sizeOf0
  v0 := Tryd.zeroValue0
  t3 := Tryd.underlying3
  a3 := Tryd.isAgg3
  z3 := Tryd.sizeOf3
  v3 := Tryd.zeroValue3
  t4 := Tryd.underlying4
  a4 := Tryd.isAgg4
  z4 := Tryd.sizeOf4
  v4 := Tryd.zeroValue4
  t9 := Tryd.underlying9
  a9 := Tryd.isAgg9
  z9 := Tryd.sizeOf9
  v9 := Tryd.zeroValue9
  t24 := Tryd.underlying26
  a24 := Tryd.isAgg26
  z24 := Tryd.sizeOf26
  v24 := Tryd.zeroValue26
  i9 := by kernel_rfl }
def lays2n21_ren : Go.Shelf.Ren := ⟨fun | 21 => 110 | 27 => 156 | 28 => 157 | 35 => 188 | 39 => 226 | n => n, fun | 22 => 22 | 3 => 3 | 4 => 4 | 0 => 0 | n => n, fun | n => n⟩
theorem lays2n21 : Go.Proofs.Lays2.n21 Tryd.prog lays2n21_ren := {
  mixed := by kernel_rfl
  f21 := Tryd.func110.trans (congrArg some (by kernel_rfl))
  f27 := Tryd.func156.trans (congrArg some (by kernel_rfl))
  f28 := Tryd.func157.trans (congrArg some (by kernel_rfl))
  f35 := Tryd.func188.trans (congrArg some (by kernel_rfl))
  f39 := Tryd.func226.trans (congrArg some (by kernel_rfl))
  t0 := Tryd.underlying0
  a0 := Tryd.isAgg0
  z0 := Tryd.sizeOf0
  v0 := Tryd.zeroValue0
  t3 := Tryd.underlying3
  a3 := Tryd.isAgg3
  z3 := Tryd.sizeOf3
  v3 := Tryd.zeroValue3
  t4 := Tryd.underlying4
  a4 := Tryd.isAgg4
  z4 := Tryd.sizeOf4
  v4 := Tryd.zeroValue4
  t22 := Tryd.underlying22
  a22 := Tryd.isAgg22
  z22 := Tryd.sizeOf22
  v22 := Tryd.zeroValue22
  i3 := by kernel_rfl }
def lays109_ren : Go.Shelf.Ren := ⟨fun | 109 => 116 | n => n, fun | 31 => 26 | 9 => 9 | 3 => 3 | 0 => 0 | 4 => 4 | n => n, fun | n => n⟩
theorem lays109 : Go.Proofs.Lays.n109 Tryd.prog lays109_ren := {
  mixed := by kernel_rfl
  f109 := Tryd.func116.trans (congrArg some (by kernel_rfl))
  t0 := Tryd.underlying0
  a0 := Tryd.isAgg0
  z0 := Tryd.sizeOf0
  v0 := Tryd.zeroValue0
  t3 := Tryd.underlying3
  a3 := Tryd.isAgg3
  z3 := Tryd.sizeOf3
  v3 := Tryd.zeroValue3
  t4 := Tryd.underlying4
  a4 := Tryd.isAgg4
  z4 := Tryd.sizeOf4
  v4 := Tryd.zeroValue4
  t9 := Tryd.underlying9
  a9 := Tryd.isAgg9
  z9 := Tryd.sizeOf9
  v9 := Tryd.zeroValue9
  t31 := Tryd.underlying26
  a31 := Tryd.isAgg26
  z31 := Tryd.sizeOf26
  v31 := Tryd.zeroValue26 }
def lays110_ren : Go.Shelf.Ren := ⟨fun | 110 => 43 | 109 => 116 | n => n, fun | 31 => 26 | 9 => 9 | 4 => 4 | 3 => 3 | 0 => 0 | n => n, fun | n => n⟩
theorem lays110 : Go.Proofs.Lays.n110 Tryd.prog lays110_ren := {
  mixed := by kernel_rfl
  f109 := Tryd.func116.trans (congrArg some (by kernel_rfl))
  f110 := Tryd.func43.trans (congrArg some (by kernel_rfl))
  t0 := Tryd.underlying0
  a0 := Tryd.isAgg0
  z0 := Tryd.sizeOf0
  v0 := Tryd.zeroValue0
  t3 := Tryd.underlying3
  a3 := Tryd.isAgg3
  z3 := Tryd.sizeOf3
  v3 := Tryd.zeroValue3
  t4 := Tryd.underlying4
  a4 := Tryd.isAgg4
  z4 := Tryd.sizeOf4
  v4 := Tryd.zeroValue4
  t9 := Tryd.underlying9
  a9 := Tryd.isAgg9
  z9 := Tryd.sizeOf9
  v9 := Tryd.zeroValue9
  t31 := Tryd.underlying26
  a31 := Tryd.isAgg26
  z31 := Tryd.sizeOf26
  v31 := Tryd.zeroValue26 }
end Go.Proofs.YtijcckhkofkenaaDoor

/- Contracts and lemmas for the proofs of this seat; each theorem states its own conditions. -/
namespace Go.Proofs.YtijcckhkofkenaaDoor
open Go.RowKit Go.Shelf
/-- is it on the list? -/
def conS (zs : List ByteArray) (x : ByteArray) : Bool := zs.any fun y => decide (y = x)
theorem conS_eq (zs : List ByteArray) (x : ByteArray) : Lib.containsS zs x = conS zs x := by
  rw [Bool.eq_iff_iff, Lib.containsS_iff, conS, List.any_eq_true]
  exact ⟨fun h => ⟨x, h, by simp⟩, fun ⟨y, h, e⟩ => by simp at e; exact e ▸ h⟩
theorem conS_yes {zs : List ByteArray} {x : ByteArray} (h : x ∈ zs) : conS zs x = true := by
  rw [← conS_eq, Lib.containsS_iff]; exact h
theorem conS_no {zs : List ByteArray} {x : ByteArray} (h : x ∉ zs) : conS zs x = false := by
  cases hc : conS zs x with
  | false => rfl
  | true => rw [← conS_eq, Lib.containsS_iff] at hc; exact absurd hc h
theorem conS_any (v : Value) (zs : List ByteArray) (x : ByteArray) (w : World) (hv : Seg w v 1 zs.length (cS zs)) :
    Calls Tryd.prog 43 #[v, .string x] w fun e w' => e = .returned (.bool (conS zs x)) ∧ w' = w := by
  obtain ⟨h0, a, cap, rfl, h1, h2, h3⟩ := hv
  have hn : zs.length ≤ cap := h1
  unfold maxLen at h2
  rcases Nat.eq_zero_or_pos zs.length with h | h
  · obtain rfl := List.eq_nil_of_length_eq_zero h
    rw [conS_no (by simp)]
    exact Any.slices_Contains_string_empty lays110 a cap x w
  · obtain ⟨b, off, rfl, hc⟩ := h3 h
    have := Any.slices_Contains_string lays110 b off zs.length cap zs x w (Nat.le_refl _) (by omega) (fun j hj => by
      have := hc j _ (cS_at0 zs j hj)
      rw [this]; simp [hj])
    rw [List.take_of_length_le (Nat.le_refl _), conS_eq] at this
    exact this
end Go.Proofs.YtijcckhkofkenaaDoor

/- Contracts and lemmas for the proofs of this seat; each theorem states its own conditions. -/
namespace Go.Proofs.YtijcckhkofkenaaDoor
open Go.RowKit Go.Shelf Go.Lib Go.Sort
/-! slices.Sort, slices.Compact at rows of texts of one's own; slices.Contains -/
/-- what slices.Sort makes of texts -/
def srtB (L : List ByteArray) : List (List UInt8) := (L.map fun k => k.data.toList).mergeSort fun x y => decide (x ≤ y)
theorem srtB_len (L : List ByteArray) : (srtB L).length = L.length := by simp [srtB, List.length_mergeSort]
theorem sortU_srtB (L : List ByteArray) : (compact (srtB L)).map ofL = sortU L := rfl
theorem sort_own (B : Nat) (v : Value) (L : List ByteArray) (w : World) (ho : w.ownsRow B 9 1 v L.length (cS L)) (hn : L.length ≤ 1000000) :
    Calls Tryd.prog 124 #[v] w fun e w' => e = .returned (.tuple #[]) ∧ w'.ownsRow B 9 1 v (srtB L).length ((srtB L).map encStr) ∧ w.grownBy w' v.ownBlock := by
  by_cases h0 : L.length = 0
  · have hL : L = [] := List.eq_nil_of_length_eq_zero h0
    subst hL
    obtain ⟨a, c, rfl⟩ := own_form ho
    refine (Any.slices_Sort_string_none lays190 a c w).mono ?_
    rintro e w1 ⟨rfl, rfl⟩
    have : srtB [] = [] := by simp [srtB]
    rw [this]
    exact ⟨rfl, ho, World.grownBy.refl _ _⟩
  · obtain ⟨a, c, rfl⟩ := own_form ho
    obtain ⟨g, rfl, hg1, hg2, hg3, hg4⟩ := own_pos ho (by omega)
    rw [cS_enc] at ho
    have hl : (L.map fun k => k.data.toList).length = L.length := by simp
    have S1 := Any.slices_Sort_string lays190 g 0 c (L.map fun k => k.data.toList) w (holds_own ho) hg2 (by omega)
    have hls : (srtB L).length = L.length := srtB_len L
    have hH := holds_own ho
    rw [hl] at S1
    have PS := fun q => putRow_eq_setCells encStr w g 0 (L.map fun k => k.data.toList).toArray (srtB L) q hH (by rw [hls]; simp)
    refine S1.mono ?_
    rintro e w1 ⟨rfl, q, os, rfl⟩
    have := PS q
    unfold srtB at this
    rw [this]
    obtain ⟨ho1, hg'⟩ := own_puts ho (ys := (srtB L).map encStr) (by simpa using hls) q os
    rw [hls]
    exact ⟨rfl, ho1, hg'⟩
theorem compact_own (B : Nat) (v : Value) (M : List (List UInt8)) (w : World) (ho : w.ownsRow B 9 1 v M.length (M.map encStr)) (hn : M.length ≤ 1000000) :
    Calls Tryd.prog 125 #[v] w fun e w' => ∃ v', e = .returned v' ∧ w'.ownsRow B 9 1 v' (compact M).length ((compact M).map encStr) ∧ w.grownBy w' v.ownBlock ∧ v'.ownBlock = v.ownBlock := by
  by_cases h0 : M.length = 0
  · have hL : M = [] := List.eq_nil_of_length_eq_zero h0
    subst hL
    obtain ⟨a, c, rfl⟩ := own_form ho
    refine (Any.slices_Compact_string_empty lays194 a c w).mono ?_
    rintro e w1 ⟨rfl, rfl⟩
    have : compact ([] : List (List UInt8)) = [] := by simp [compact, compactUpTo]
    rw [this]
    exact ⟨_, rfl, ho, World.grownBy.refl _ _, rfl⟩
  · obtain ⟨a, c, rfl⟩ := own_form ho
    obtain ⟨g, rfl, hg1, hg2, hg3, hg4⟩ := own_pos ho (by omega)
    have hle := compact_length_le M
    have C1 := Any.slices_Compact_string lays194 g 0 c M w (holds_own ho) (by omega) (by omega)
    have hH := holds_own ho
    have PS := fun q => putRow_eq_setCells encStr w g 0 M.toArray (compact M ++ List.replicate (M.length - (compact M).length) []) q hH (by simp; omega)
    refine C1.mono ?_
    rintro e w1 ⟨rfl, q, rfl⟩
    rw [PS q]
    obtain ⟨ho2, hg2'⟩ := own_puts ho (ys := (compact M ++ List.replicate (M.length - (compact M).length) []).map encStr) (by simp; omega) q #[]
    rw [grow_empty] at ho2 hg2'
    have ho3 := own_shorter ho2 (m := (compact M).length) hle
    have et : ((compact M ++ List.replicate (M.length - (compact M).length) []).map encStr).take (compact M).length = (compact M).map encStr := by rw [List.map_append, List.take_left' (by simp)]
    rw [et] at ho3
    exact ⟨_, rfl, ho3, hg2', rfl⟩
theorem contains_Str (v : Value) (L : List ByteArray) (w : World) (hv : Seg w v 1 L.length (cS L)) (k : ByteArray) :
    Calls Tryd.prog 43 #[v, .string k] w fun e w' => e = .returned (.bool (memB L k)) ∧ w' = w := conS_any v L k w hv
end Go.Proofs.YtijcckhkofkenaaDoor
