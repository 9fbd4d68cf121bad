/- Contracts and lemmas for the proof of ShardTells; each theorem states its own conditions. -/
import Derived.Test.YtghemmmkbpfdhaaDoorQShardTellsbn
import Derived.Test.YtghemmmkbpfdhaaDoorQShardTellsbl
import Derived.Test.YtghemmmkbpfdhaaDoorQShardTellsaa
import Derived.Laws.IdiomCopy
set_option linter.unusedVariables false
set_option linter.unusedSimpArgs false
/- Contracts and lemmas for the proofs of this seat; each theorem states its own conditions. -/
namespace Go.Proofs.YtghemmmkbpfdhaaDoor
open Go.RowKit
/-! deeds in a row, opened; parts of them -/
theorem SegDs.form {w : World} {v : Value} {D : List Ops} (h : SegDs w v D) : ∃ a c, v = .slice a D.length c ∧ D.length ≤ c ∧ c ≤ maxLen ∧
    (0 < D.length → ∃ b off, a = some ⟨b, off, none⟩ ∧ ∀ (j : Nat) (d : Ops), D[j]? = some d → ∃ au cu, w.cell? ⟨b, off + j, none⟩ = some (.slice au d.length cu) ∧ Seg w (.slice au d.length cu) 4 d.length (cO d)) := by
  obtain ⟨vs, h1, ⟨_, a, c, rfl, h2, h3, h4⟩, h5⟩ := h
  refine ⟨a, c, by rw [h1], by omega, h3, fun h0 => ?_⟩
  obtain ⟨b, off, rfl, h6⟩ := h4 (by omega)
  refine ⟨b, off, rfl, fun j d hd => ?_⟩
  have hj := (List.getElem?_eq_some_iff.1 hd).1
  have hs := h5 j (vs[j]'(by omega)) d (List.getElem?_eq_getElem _) hd
  obtain ⟨au, cu, e⟩ := seg_form hs
  have hc := h6 j (vs[j]'(by omega)) (List.getElem?_eq_getElem _)
  rw [e] at hs hc
  exact ⟨au, cu, hc, hs⟩
theorem SegDs.mk' {w : World} {b off c : Nat} {D : List Ops} (hc : D.length ≤ c) (hm : c ≤ maxLen) (h : ∀ (j : Nat) (d : Ops), D[j]? = some d → ∃ au cu, w.cell? ⟨b, off + j, none⟩ = some (.slice au d.length cu) ∧ Seg w (.slice au d.length cu) 4 d.length (cO d)) : SegDs w (.slice (some ⟨b, off, none⟩) D.length c) D := by
  have each : ∀ j, j < D.length → ∃ u : Value, w.cell? ⟨b, off + j, none⟩ = some u ∧ Seg w u 4 (D.getD j []).length (cO (D.getD j [])) := fun j hj => by
    obtain ⟨au, cu, h1, h2⟩ := h j D[j] (List.getElem?_eq_getElem hj)
    refine ⟨_, h1, ?_⟩
    simp [hj]; exact h2
  have : ∃ f : Nat → Value, ∀ j, j < D.length → w.cell? ⟨b, off + j, none⟩ = some (f j) ∧ Seg w (f j) 4 (D.getD j []).length (cO (D.getD j [])) := by
    refine ⟨fun j => if hj : j < D.length then Classical.choose (each j hj) else .bool false, fun j hj => ?_⟩
    simp only [hj, dif_pos]
    exact Classical.choose_spec (each j hj)
  obtain ⟨f, hf⟩ := this
  refine ⟨(List.range D.length).map f, by simp, ⟨by simp, some ⟨b, off, none⟩, c, by simp, by simpa using hc, hm, fun _ => ⟨b, off, rfl, fun j u hu => ?_⟩⟩, fun i u d hu hd => ?_⟩
  · obtain ⟨hj, e⟩ := List.getElem?_eq_some_iff.1 hu
    simp at hj e
    subst e
    exact (hf j hj).1
  · obtain ⟨hj, e⟩ := List.getElem?_eq_some_iff.1 hu
    obtain ⟨hj', e'⟩ := List.getElem?_eq_some_iff.1 hd
    simp at hj e
    subst e; subst e'
    have := (hf i hj).2
    simpa [hj'] using this
theorem SegDs.take {w : World} {b off c k : Nat} {D : List Ops} (h : SegDs w (.slice (some ⟨b, off, none⟩) D.length c) D) (hk : k ≤ D.length) : SegDs w (.slice (some ⟨b, off, none⟩) k c) (D.take k) := by
  obtain ⟨a', c', e, h1, h2, h3⟩ := h.form
  injection e with e1 e2 e3
  subst e1; subst e3
  have hl : (D.take k).length = k := by rw [List.length_take]; omega
  have := SegDs.mk' (w := w) (b := b) (off := off) (c := c) (D := D.take k) (by omega) h2 (fun j d hd => by
    have hj := (List.getElem?_eq_some_iff.1 hd).1
    rw [List.getElem?_take, if_pos (by omega)] at hd
    obtain ⟨b', off', e, h4⟩ := h3 (by omega)
    injection e with e; injection e with e1 e2
    subst e1; subst e2
    exact h4 j d hd)
  rwa [hl] at this
theorem SegDs.drop {w : World} {b off c k : Nat} {D : List Ops} (h : SegDs w (.slice (some ⟨b, off, none⟩) D.length c) D) (hk : k ≤ D.length) : SegDs w (.slice (some ⟨b, off + k, none⟩) (D.length - k) (c - k)) (D.drop k) := by
  obtain ⟨a', c', e, h1, h2, h3⟩ := h.form
  injection e with e1 e2 e3
  subst e1; subst e3
  have hl : (D.drop k).length = D.length - k := by rw [List.length_drop]
  have := SegDs.mk' (w := w) (b := b) (off := off + k) (c := c - k) (D := D.drop k) (by omega) (by omega) (fun j d hd => by
    have hj := (List.getElem?_eq_some_iff.1 hd).1
    rw [List.getElem?_drop] at hd
    obtain ⟨b', off', e, h4⟩ := h3 (by omega)
    injection e with e; injection e with e1 e2
    subst e1; subst e2
    rw [Nat.add_assoc]
    exact h4 (k + j) d hd)
  rwa [hl] at this
theorem SegDs.nil (w : World) (a : Option Addr) (c : Nat) (hc : c ≤ maxLen) : SegDs w (.slice a 0 c) [] := ⟨[], rfl, ⟨rfl, a, c, rfl, Nat.zero_le _, hc, fun h => absurd h (by simp)⟩, fun i u d h => by simp at h⟩
theorem one_slice (a a' : Option Addr) (n c n' c' : Nat) : ∀ u ∈ [Value.slice a n c, .slice a' n' c'], u.oneCell' = true := by
  intro u hu; simp at hu; rcases hu with rfl | rfl <;> rfl
theorem seg_2 {w : World} {b : Nat} {u v : Value} {t : TypeId} (h : w.heap[b]? = some (.cells #[u, v] t (0, 0))) : Seg w (.slice (some ⟨b, 0, none⟩) 2 2) 1 2 [u, v] :=
  seg_blk (xs := [u, v]) h rfl (Nat.le_refl _) (by simp [maxLen])
end Go.Proofs.YtghemmmkbpfdhaaDoor

/- Contracts and lemmas for the proofs of this seat; each theorem states its own conditions. -/
namespace Go.Proofs.YtghemmmkbpfdhaaDoor
open Go.RowKit
/-! the document's Deeds -/
def deedsE (D : List Ops) : Int := if 60 < D.length then 2 else firstE (fun i => deedE (D.getD i [])) D.length
theorem deedsE_at {D : List Ops} {k : Nat} (hk : k < D.length) : deedE (D.getD k []) = deedE D[k] := by simp [hk]
theorem deeds_ok' {D : List Ops} (h : deedsE D = 0) : D.length ≤ 60 ∧ ∀ d ∈ D, DeedOk d := by
  unfold deedsE at h
  split at h
  · cases h
  · refine ⟨by omega, fun d hd => ?_⟩
    obtain ⟨i, hi, rfl⟩ := List.mem_iff_getElem.1 hd
    have := firstE_all h i hi
    rw [deedsE_at hi] at this
    exact deed_ok this
end Go.Proofs.YtghemmmkbpfdhaaDoor

/- Contracts and lemmas for the proofs of this seat; each theorem states its own conditions. -/
namespace Go.Proofs.YtghemmmkbpfdhaaDoor
open Go.RowKit
/-! Many cells written in one block -/
def putL (cur : Array Value) (o : Nat) : List Value → Array Value
  | [] => cur
  | v :: r => putL (cur.setIfInBounds o v) (o + 1) r
theorem putL_size : ∀ (vs : List Value) (cur : Array Value) (o : Nat), (putL cur o vs).size = cur.size
  | [], _, _ => rfl
  | _ :: r, cur, o => by rw [putL, putL_size r]; simp
theorem putL_eq : ∀ (vs : List Value) (cur : Array Value) (o : Nat), o + vs.length ≤ cur.size → (putL cur o vs).toList = cur.toList.take o ++ vs ++ cur.toList.drop (o + vs.length)
  | [], cur, o, _ => by simp [putL]
  | v :: r, cur, o, h => by
    simp only [List.length_cons] at h
    rw [putL, putL_eq r _ _ (by simp; omega), Array.toList_setIfInBounds, List.set_eq_take_append_cons_drop, if_pos (by simp; omega)]
    have e1 : (cur.toList.take o).length = o := by simp; omega
    have e2 : o + 1 - o = 1 := by omega
    have e3 : o + 1 + r.length - o = r.length + 1 := by omega
    rw [List.take_append, List.drop_append, e1, e2, e3, List.take_of_length_le (by omega), @List.drop_eq_nil_of_le _ (cur.toList.take o) _ (by omega)]
    simp [Nat.add_assoc, Nat.add_comm 1]
theorem setCells_heap (b : Nat) (t : TypeId) (fr : Nat × Nat) : ∀ (vs : List Value) (o : Nat) (w : World) (cur : Array Value), w.heap[b]? = some (.cells cur t fr) → (w.setCells b o vs).heap[b]? = some (.cells (putL cur o vs) t fr)
  | [], _, _, _, h => h
  | v :: r, o, w, cur, h => setCells_heap b t fr r (o + 1) _ _ (by simp [World.setCell, Array.getElem?_modify, h])
theorem ext_setCells {B b : Nat} {a : World} (hb : B ≤ b) : ∀ (vs : List Value) (o : Nat) (w : World), Below B a w → Below B a (w.setCells b o vs)
  | [], _, _, h => h
  | v :: r, o, w, h => ext_setCells hb r (o + 1) _ (Below.setCell h hb v)
theorem setCells_other {b k : Nat} (hk : k ≠ b) : ∀ (vs : List Value) (o : Nat) (w : World), (w.setCells b o vs).heap[k]? = w.heap[k]?
  | [], _, _ => rfl
  | v :: r, o, w => (setCells_other hk r (o + 1) _).trans (Below.heap_setCell _ _ _ _ (fun e => hk e))
end Go.Proofs.YtghemmmkbpfdhaaDoor
