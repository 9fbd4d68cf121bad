/- Contracts and lemmas for the proof of ShardSays; each theorem states its own conditions. -/
import Derived.Test.YtghemmmkbpfdhaaDoorQShardSaysbe
import Derived.Test.YtghemmmkbpfdhaaDoorQShardSaysam
import Derived.Test.YtghemmmkbpfdhaaDoorQShardSaysan
import Derived.Test.YtghemmmkbpfdhaaDoorQShardSaysab
set_option linter.unusedVariables false
set_option linter.unusedSimpArgs false
/- Contracts and lemmas for the proofs of this seat; each theorem states its own conditions. -/
namespace Go.Proofs.YtghemmmkbpfdhaaDoor
open Go.RowKit
/-! slices.Concat of two, of three -/
theorem seg_n {w : World} {b : Nat} {us : List Value} {t : TypeId} (h : w.heap[b]? = some (.cells us.toArray t (0, 0))) (hl : us.length ≤ 1000) : Seg w (.slice (some ⟨b, 0, none⟩) us.length us.length) 1 us.length us :=
  seg_blk (xs := us) h (by simp) (Nat.le_refl _) (by unfold maxLen; omega)
theorem concat2S (b : Nat) (u v : Value) (x y : List ByteArray) (w : World) (h : w.heap[b]? = some (.cells #[u, v] 26 (0, 0))) (hu : Seg w u 1 x.length (cS x)) (hv : Seg w v 1 y.length (cS y)) (hn : x.length + y.length ≤ 1000000000) :
    Calls Tryd.prog 38 #[.slice (some ⟨b, 0, none⟩) 2 2] w fun e w' => ∃ v', e = .returned v' ∧ w'.ownsRow w.heap.size 9 1 v' (x ++ y).length (cS (x ++ y)) ∧ Ext w w' := by
  have := concat_Str _ [u, v] [(x.length, cS x), (y.length, cS y)] w (seg_n (us := [u, v]) h (by simp)) (Nat.le_refl _) (Nat.le_refl _) (fun i a p ha hp => by
    match i, ha, hp with
    | 0, ha, hp => simp at ha hp; subst ha; subst hp; exact hu
    | 1, ha, hp => simp at ha hp; subst ha; subst hp; exact hv) (by intro p hp; simp at hp; rcases hp with rfl | rfl <;> exact cS_one _) (by simp [totN]; omega)
  have e1 : totN [(x.length, cS x), (y.length, cS y)] = (x ++ y).length := by simp [totN]
  have e2 : totC [(x.length, cS x), (y.length, cS y)] = cS (x ++ y) := by simp [totC, cS]
  rw [e1, e2] at this
  exact this
theorem concat2I (b : Nat) (u v : Value) (x y : List Int) (w : World) (h : w.heap[b]? = some (.cells #[u, v] 22 (0, 0))) (hu : Seg w u 1 x.length (cI x)) (hv : Seg w v 1 y.length (cI y)) (hn : x.length + y.length ≤ 1000000000) :
    Calls Tryd.prog 34 #[.slice (some ⟨b, 0, none⟩) 2 2] w fun e w' => ∃ v', e = .returned v' ∧ w'.ownsRow w.heap.size 3 1 v' (x ++ y).length (cI (x ++ y)) ∧ Ext w w' := by
  have := concat_Int _ [u, v] [(x.length, cI x), (y.length, cI y)] w (seg_n (us := [u, v]) h (by simp)) (Nat.le_refl _) (Nat.le_refl _) (fun i a p ha hp => by
    match i, ha, hp with
    | 0, ha, hp => simp at ha hp; subst ha; subst hp; exact hu
    | 1, ha, hp => simp at ha hp; subst ha; subst hp; exact hv) (by intro p hp; simp at hp; rcases hp with rfl | rfl <;> exact cI_one _) (by simp [totN]; omega)
  have e1 : totN [(x.length, cI x), (y.length, cI y)] = (x ++ y).length := by simp [totN]
  have e2 : totC [(x.length, cI x), (y.length, cI y)] = cI (x ++ y) := by simp [totC, cI]
  rw [e1, e2] at this
  exact this
theorem concat3S (b : Nat) (u v s : Value) (x y z : List ByteArray) (w : World) (h : w.heap[b]? = some (.cells #[u, v, s] 26 (0, 0))) (hu : Seg w u 1 x.length (cS x)) (hv : Seg w v 1 y.length (cS y)) (hs : Seg w s 1 z.length (cS z)) (hn : x.length + y.length + z.length ≤ 1000000000) :
    Calls Tryd.prog 38 #[.slice (some ⟨b, 0, none⟩) 3 3] w fun e w' => ∃ v', e = .returned v' ∧ w'.ownsRow w.heap.size 9 1 v' (x ++ y ++ z).length (cS (x ++ y ++ z)) ∧ Ext w w' := by
  have := concat_Str _ [u, v, s] [(x.length, cS x), (y.length, cS y), (z.length, cS z)] w (seg_n (us := [u, v, s]) h (by simp)) (Nat.le_refl _) (Nat.le_refl _) (fun i a p ha hp => by
    match i, ha, hp with
    | 0, ha, hp => simp at ha hp; subst ha; subst hp; exact hu
    | 1, ha, hp => simp at ha hp; subst ha; subst hp; exact hv
    | 2, ha, hp => simp at ha hp; subst ha; subst hp; exact hs) (by intro p hp; simp at hp; rcases hp with rfl | rfl | rfl <;> exact cS_one _) (by simp [totN]; omega)
  have e1 : totN [(x.length, cS x), (y.length, cS y), (z.length, cS z)] = (x ++ y ++ z).length := by simp [totN]
  have e2 : totC [(x.length, cS x), (y.length, cS y), (z.length, cS z)] = cS (x ++ y ++ z) := by simp [totC, cS]
  rw [e1, e2] at this
  exact this
theorem concat3I (b : Nat) (u v s : Value) (x y z : List Int) (w : World) (h : w.heap[b]? = some (.cells #[u, v, s] 22 (0, 0))) (hu : Seg w u 1 x.length (cI x)) (hv : Seg w v 1 y.length (cI y)) (hs : Seg w s 1 z.length (cI z)) (hn : x.length + y.length + z.length ≤ 1000000000) :
    Calls Tryd.prog 34 #[.slice (some ⟨b, 0, none⟩) 3 3] w fun e w' => ∃ v', e = .returned v' ∧ w'.ownsRow w.heap.size 3 1 v' (x ++ y ++ z).length (cI (x ++ y ++ z)) ∧ Ext w w' := by
  have := concat_Int _ [u, v, s] [(x.length, cI x), (y.length, cI y), (z.length, cI z)] w (seg_n (us := [u, v, s]) h (by simp)) (Nat.le_refl _) (Nat.le_refl _) (fun i a p ha hp => by
    match i, ha, hp with
    | 0, ha, hp => simp at ha hp; subst ha; subst hp; exact hu
    | 1, ha, hp => simp at ha hp; subst ha; subst hp; exact hv
    | 2, ha, hp => simp at ha hp; subst ha; subst hp; exact hs) (by intro p hp; simp at hp; rcases hp with rfl | rfl | rfl <;> exact cI_one _) (by simp [totN]; omega)
  have e1 : totN [(x.length, cI x), (y.length, cI y), (z.length, cI z)] = (x ++ y ++ z).length := by simp [totN]
  have e2 : totC [(x.length, cI x), (y.length, cI y), (z.length, cI z)] = cI (x ++ y ++ z) := by simp [totC, cI]
  rw [e1, e2] at this
  exact this
/-- parts of a slice -/
theorem seg_take1 {w : World} {b off c n k : Nat} {xs : List Value} (h : Seg w (.slice (some ⟨b, off, none⟩) n c) 1 n xs) (hk : k ≤ n) : Seg w (.slice (some ⟨b, off, none⟩) k c) 1 k (xs.take k) := by
  obtain ⟨h0, a, cap, e, h1, h2, h3⟩ := h
  injection e with e1 e2 e3
  subst e1; subst e3
  refine ⟨by rw [List.length_take]; omega, _, _, rfl, by omega, h2, fun hk0 => ⟨b, off, rfl, fun j u hu => ?_⟩⟩
  obtain ⟨b', off', e, hc⟩ := h3 (by omega)
  injection e with e; injection e with e1 e2
  subst e1; subst e2
  rw [List.getElem?_take] at hu
  split at hu
  · exact hc j u hu
  · cases hu
theorem seg_drop1 {w : World} {b off c n k : Nat} {xs : List Value} (h : Seg w (.slice (some ⟨b, off, none⟩) n c) 1 n xs) (hk : k ≤ n) : Seg w (.slice (some ⟨b, off + k, none⟩) (n - k) (c - k)) 1 (n - k) (xs.drop k) := by
  obtain ⟨h0, a, cap, e, h1, h2, h3⟩ := h
  injection e with e1 e2 e3
  subst e1; subst e3
  refine ⟨by rw [List.length_drop]; omega, _, _, rfl, by omega, by omega, fun hk0 => ⟨b, off + k, rfl, fun j u hu => ?_⟩⟩
  obtain ⟨b', off', e, hc⟩ := h3 (by omega)
  injection e with e; injection e with e1 e2
  subst e1; subst e2
  rw [List.getElem?_drop] at hu
  rw [Nat.add_assoc]
  exact hc (k + j) u hu
end Go.Proofs.YtghemmmkbpfdhaaDoor

/- Contracts and lemmas for the proofs of this seat; each theorem states its own conditions. -/
namespace Go.Proofs.YtghemmmkbpfdhaaDoor
open Go.RowKit Go.Shelf
/-- is it on the list? -/
def conS (zs : List ByteArray) (x : ByteArray) : Bool := zs.any fun y => decide (y = x)
theorem conS_eq (zs : List ByteArray) (x : ByteArray) : Lib.containsS zs x = conS zs x := by
  rw [Bool.eq_iff_iff, Lib.containsS_iff, conS, List.any_eq_true]
  exact ⟨fun h => ⟨x, h, by simp⟩, fun ⟨y, h, e⟩ => by simp at e; exact e ▸ h⟩
theorem conS_yes {zs : List ByteArray} {x : ByteArray} (h : x ∈ zs) : conS zs x = true := by
  rw [← conS_eq, Lib.containsS_iff]; exact h
theorem conS_no {zs : List ByteArray} {x : ByteArray} (h : x ∉ zs) : conS zs x = false := by
  cases hc : conS zs x with
  | false => rfl
  | true => rw [← conS_eq, Lib.containsS_iff] at hc; exact absurd hc h
theorem conS_any (v : Value) (zs : List ByteArray) (x : ByteArray) (w : World) (hv : Seg w v 1 zs.length (cS zs)) :
    Calls Tryd.prog 37 #[v, .string x] w fun e w' => e = .returned (.bool (conS zs x)) ∧ w' = w := by
  obtain ⟨h0, a, cap, rfl, h1, h2, h3⟩ := hv
  have hn : zs.length ≤ cap := h1
  unfold maxLen at h2
  rcases Nat.eq_zero_or_pos zs.length with h | h
  · obtain rfl := List.eq_nil_of_length_eq_zero h
    rw [conS_no (by simp)]
    exact Any.slices_Contains_string_empty lays110 a cap x w
  · obtain ⟨b, off, rfl, hc⟩ := h3 h
    have := Any.slices_Contains_string lays110 b off zs.length cap zs x w (Nat.le_refl _) (by omega) (fun j hj => by
      have := hc j _ (cS_at0 zs j hj)
      rw [this]; simp [hj])
    rw [List.take_of_length_le (Nat.le_refl _), conS_eq] at this
    exact this
end Go.Proofs.YtghemmmkbpfdhaaDoor
