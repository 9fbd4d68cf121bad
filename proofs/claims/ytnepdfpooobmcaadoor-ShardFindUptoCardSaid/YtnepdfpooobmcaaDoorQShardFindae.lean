/- Contracts and lemmas for the proof of ShardFind; each theorem states its own conditions. -/
import Derived.Test.YtnepdfpooobmcaaDoorQShardFindab
set_option linter.unusedVariables false
set_option linter.unusedSimpArgs false
/- Contracts and lemmas for the proofs of this seat; each theorem states its own conditions. -/
namespace Go.Proofs.YtnepdfpooobmcaaDoor
/-! the order of strings -/
theorem bl_irrefl : ∀ x : List UInt8, Op.bytesLess x x = false
  | [] => rfl
  | a :: x => by simp [Op.bytesLess, bl_irrefl x, UInt8.lt_irrefl]
theorem u8_lt {a b : UInt8} : a < b ↔ a.toNat < b.toNat := UInt8.lt_iff_toNat_lt
theorem u8_eq {a b : UInt8} : a = b ↔ a.toNat = b.toNat := ⟨fun h => by rw [h], UInt8.toNat_inj.1⟩
theorem bl_trans : ∀ x y z : List UInt8, Op.bytesLess x y = true → Op.bytesLess y z = true → Op.bytesLess x z = true
  | _, _, [] => fun _ h => by simp [Op.bytesLess] at h
  | _, [], _ :: _ => fun h _ => by simp [Op.bytesLess] at h
  | [], _ :: _, _ :: _ => fun _ _ => rfl
  | a :: x, b :: y, c :: z => by
    simp only [Op.bytesLess, Bool.or_eq_true, decide_eq_true_eq, Bool.and_eq_true, beq_iff_eq, u8_lt, u8_eq]
    rintro (h | ⟨h, h'⟩) (k | ⟨k, k'⟩)
    · exact .inl (by omega)
    · exact .inl (by omega)
    · exact .inl (by omega)
    · exact .inr ⟨by omega, bl_trans x y z h' k'⟩
theorem bl_tri : ∀ x y : List UInt8, Op.bytesLess x y = true ∨ x = y ∨ Op.bytesLess y x = true
  | [], [] => .inr (.inl rfl)
  | [], _ :: _ => .inl rfl
  | _ :: _, [] => .inr (.inr rfl)
  | a :: x, b :: y => by
    rcases bl_tri x y with h | h | h
    · rcases Nat.lt_trichotomy a.toNat b.toNat with k | k | k
      · left; simp [Op.bytesLess, u8_lt, k]
      · left; have := u8_eq.2 k; subst this; simp [Op.bytesLess, h]
      · right; right; simp [Op.bytesLess, u8_lt, k]
    · rcases Nat.lt_trichotomy a.toNat b.toNat with k | k | k
      · left; simp [Op.bytesLess, u8_lt, k]
      · right; left; have := u8_eq.2 k; rw [this, h]
      · right; right; simp [Op.bytesLess, u8_lt, k]
    · rcases Nat.lt_trichotomy a.toNat b.toNat with k | k | k
      · left; simp [Op.bytesLess, u8_lt, k]
      · right; right; have := u8_eq.2 k; subst this; simp [Op.bytesLess, h]
      · right; right; simp [Op.bytesLess, u8_lt, k]
theorem blt_irrefl (a : ByteArray) : blt a a = false := bl_irrefl _
theorem blt_trans {a b c : ByteArray} (h : blt a b = true) (k : blt b c = true) : blt a c = true := bl_trans _ _ _ h k
theorem blt_tri (a b : ByteArray) : blt a b = true ∨ a = b ∨ blt b a = true := by
  rcases bl_tri a.toList b.toList with h | h | h
  · exact .inl h
  · exact .inr (.inl (toList_inj h))
  · exact .inr (.inr h)
theorem blt_asymm {a b : ByteArray} (h : blt a b = true) : blt b a = false := by
  cases k : blt b a with
  | false => rfl
  | true => have := blt_trans h k; rw [blt_irrefl] at this; cases this
theorem blt_of_not {a b : ByteArray} (h : blt a b = false) : a = b ∨ blt b a = true := by
  rcases blt_tri a b with k | k | k
  · rw [h] at k; cases k
  · exact .inl k
  · exact .inr k
/-! sorted lists of strings -/
def kAt (ks : List ByteArray) (i : Nat) : ByteArray := ks.getD i ByteArray.empty
theorem kAt_eq {ks : List ByteArray} {i : Nat} (h : i < ks.length) : kAt ks i = ks[i] := by simp [kAt, h]
/-- strictly sorted -/
def srt (ks : List ByteArray) : Prop := ∀ i j, i < j → j < ks.length → blt (kAt ks i) (kAt ks j) = true
theorem srt_adj {ks : List ByteArray} (h : ∀ i, i + 1 < ks.length → blt (kAt ks i) (kAt ks (i + 1)) = true) : srt ks := by
  intro i j hij
  induction j with
  | zero => omega
  | succ j ih =>
    intro hj
    rcases Nat.lt_succ_iff_lt_or_eq.1 hij with k | k
    · exact blt_trans (ih k (by omega)) (h j hj)
    · subst k; exact h i hj
/-- cuts not greater than a key -/
def leAt (ks : List ByteArray) (t : ByteArray) (i : Nat) : Bool := !(blt t (kAt ks i))
def bltAt (ks : List ByteArray) (t : ByteArray) (i : Nat) : Bool := blt (kAt ks i) t
def hitS (ks : List ByteArray) (t : ByteArray) (i : Nat) : Bool := decide (i < ks.length) && (kAt ks i).toList == t.toList
theorem bltAt_eq {ks : List ByteArray} {t : ByteArray} {i : Nat} (h : i < ks.length) : bltAt ks t i = blt ks[i] t := by simp [bltAt, kAt_eq h]
theorem hitS_eq {ks : List ByteArray} {t : ByteArray} {i : Nat} (h : i < ks.length) : hitS ks t i = (ks[i].toList == t.toList) := by simp [hitS, h, kAt_eq h]
theorem hitS_out {ks : List ByteArray} {t : ByteArray} {i : Nat} (h : ¬ i < ks.length) : hitS ks t i = false := by simp [hitS, h]
theorem dropsB_blt {ks : List ByteArray} (h : srt ks) (t : ByteArray) : dropsB (bltAt ks t) ks.length := fun i j hij hj hp => blt_trans (h i j hij hj) hp
/-- where p ends -/
def idx (p : Nat → Bool) (n : Nat) : Nat := ((List.range n).takeWhile p).length
theorem idx_spec (p : Nat → Bool) (n i : Nat) (h : cutAt p n i) : idx p n = i := by
  obtain ⟨h1, h2, h3⟩ := h
  have e : List.range n = List.range i ++ (List.range (n - i)).map (i + ·) := by
    have := List.range_add (n := i) (m := n - i)
    rw [show i + (n - i) = n from by omega] at this; exact this
  unfold idx
  rw [e, List.takeWhile_append_of_pos (fun a ha => h2 a (List.mem_range.1 ha))]
  cases hn : n - i with
  | zero => simp
  | succ m =>
    rw [List.range_succ_eq_map]
    simp only [List.map_cons, List.takeWhile_cons, Nat.add_zero]
    rw [h3 i (Nat.le_refl _) (by omega)]
    simp
/-- the first cut not less, and whether it is the key: from it the number of cuts not greater -/
theorem cut_le {ks : List ByteArray} {t : ByteArray} {i : Nat} (hs : srt ks) (h : cutAt (bltAt ks t) ks.length i) : cutAt (leAt ks t) ks.length (if hitS ks t i then i + 1 else i) := by
  obtain ⟨h1, h2, h3⟩ := h
  have lo : ∀ j, j < i → leAt ks t j = true := fun j hj => by
    have := h2 j hj; simp only [bltAt] at this; simp [leAt, blt_asymm this]
  by_cases hi : i < ks.length
  · cases hh : hitS ks t i with
    | true =>
      have e : ks[i] = t := toList_inj (by rw [hitS_eq hi] at hh; simpa using hh)
      rw [if_pos rfl]
      refine ⟨by omega, fun j hj => ?_, fun j hj hjn => ?_⟩
      · rcases Nat.lt_succ_iff_lt_or_eq.1 hj with k | k
        · exact lo j k
        · subst k; simp [leAt, kAt_eq hi, e, blt_irrefl]
      · have := hs i j (by omega) hjn
        rw [kAt_eq hi, e] at this
        simp [leAt, this]
    | false =>
      rw [if_neg (by simp)]
      refine ⟨h1, lo, fun j hj hjn => ?_⟩
      have a := h3 i (Nat.le_refl _) hi
      rw [bltAt_eq hi] at a
      have hti : blt t ks[i] = true := by
        rcases blt_of_not a with k | k
        · rw [hitS_eq hi, k] at hh; simp at hh
        · exact k
      rcases Nat.eq_or_lt_of_le hj with k | k
      · subst k; simp [leAt, kAt_eq hi, hti]
      · have := blt_trans hti (by rw [← kAt_eq hi]; exact hs i j k hjn)
        simp [leAt, this]
  · rw [hitS_out hi, if_neg (by simp)]
    exact ⟨h1, lo, fun j hj hjn => absurd hjn (by omega)⟩
end Go.Proofs.YtnepdfpooobmcaaDoor
