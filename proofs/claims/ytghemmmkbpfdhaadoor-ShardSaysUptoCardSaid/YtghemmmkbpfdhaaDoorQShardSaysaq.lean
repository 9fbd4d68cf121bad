/- Contracts and lemmas for the proof of ShardSays; each theorem states its own conditions. -/
import Derived.Test.YtghemmmkbpfdhaaDoorQShardSaysal
import Derived.Test.YtghemmmkbpfdhaaDoorQShardSaysaf
set_option linter.unusedVariables false
set_option linter.unusedSimpArgs false
/- Contracts and lemmas for the proofs of this seat; each theorem states its own conditions. -/
namespace Go.Proofs.YtghemmmkbpfdhaaDoor
/-! a cut more, in plain lists -/
theorem getD_append_l {α : Type} (A B : List α) (d : α) {i : Nat} (h : i < A.length) : (A ++ B).getD i d = A.getD i d := by
  simp [List.getElem?_append_left h]
theorem getD_append_r {α : Type} (A B : List α) (d : α) {i : Nat} (h : A.length ≤ i) : (A ++ B).getD i d = B.getD (i - A.length) d := by
  simp [List.getElem?_append_right h]
theorem getD_take {α : Type} (A : List α) (d : α) {i n : Nat} (h : i < n) : (A.take n).getD i d = A.getD i d := by
  simp [List.getElem?_take, h]
theorem getD_drop {α : Type} (A : List α) (d : α) (i n : Nat) : (A.drop n).getD i d = A.getD (n + i) d := by
  simp [List.getElem?_drop]
/-- the new cuts and owners -/
def cutC (C : List ByteArray) (key : ByteArray) (i : Nat) : List ByteArray := C.take i ++ [key] ++ C.drop i
def cutO (O : List Int) (i : Nat) : List Int := O.take i ++ [O.getD i 0] ++ O.drop i
theorem cutC_len {C : List ByteArray} {key : ByteArray} {i : Nat} (hi : i ≤ C.length) : (cutC C key i).length = C.length + 1 := by
  simp only [cutC, List.length_append, List.length_take, List.length_drop, List.length_singleton]; omega
theorem cutO_len {O : List Int} {i : Nat} (hi : i ≤ O.length) : (cutO O i).length = O.length + 1 := by
  simp only [cutO, List.length_append, List.length_take, List.length_drop, List.length_singleton]; omega
theorem cutC_lo {C : List ByteArray} {key : ByteArray} {i j : Nat} (hi : i ≤ C.length) (h : j < i) : kAt (cutC C key i) j = kAt C j := by
  have hl : (C.take i).length = i := by rw [List.length_take]; omega
  unfold kAt cutC
  rw [List.append_assoc, getD_append_l _ _ _ (by omega), getD_take _ _ h]
theorem cutC_at {C : List ByteArray} {key : ByteArray} {i : Nat} (hi : i ≤ C.length) : kAt (cutC C key i) i = key := by
  have hl : (C.take i).length = i := by rw [List.length_take]; omega
  unfold kAt cutC
  rw [List.append_assoc, getD_append_r _ _ _ (by omega), hl]; simp
theorem cutC_hi {C : List ByteArray} {key : ByteArray} {i j : Nat} (hi : i ≤ C.length) (h : i ≤ j) : kAt (cutC C key i) (j + 1) = kAt C j := by
  have hl : (C.take i ++ [key]).length = i + 1 := by rw [List.length_append, List.length_take, List.length_singleton]; omega
  unfold kAt cutC
  rw [getD_append_r _ _ _ (by omega), hl, getD_drop]
  congr 1; omega
theorem cutO_lo {O : List Int} {i j : Nat} (hi : i ≤ O.length) (h : j ≤ i) : (cutO O i).getD j 0 = O.getD j 0 := by
  have hl : (O.take i).length = i := by rw [List.length_take]; omega
  unfold cutO
  rw [List.append_assoc]
  rcases Nat.lt_or_ge j i with k | k
  · rw [getD_append_l _ _ _ (by omega), getD_take _ _ k]
  · obtain rfl : j = i := by omega
    rw [getD_append_r _ _ _ (by omega), hl]; simp
theorem cutO_hi {O : List Int} {i j : Nat} (hi : i ≤ O.length) (h : i ≤ j) : (cutO O i).getD (j + 1) 0 = O.getD j 0 := by
  have hl : (O.take i ++ [O.getD i 0]).length = i + 1 := by rw [List.length_append, List.length_take, List.length_singleton]; omega
  unfold cutO
  rw [getD_append_r _ _ _ (by omega), hl, getD_drop]
  congr 1; omega
/-- the key belongs at i -/
theorem cut_above {C : List ByteArray} {key : ByteArray} {i : Nat} (hs : srt C) (hc : cutAt (bltAt C key) C.length i) (hh : hitS C key i = false) : ∀ j, i ≤ j → j < C.length → blt key (kAt C j) = true := by
  intro j hj hjn
  have a := hc.2.2 j hj hjn
  have b := cut_le hs hc
  rw [if_neg (by simp [hh])] at b
  have c := b.2.2 j hj hjn
  simpa [leAt] using c
theorem cutC_srt {C : List ByteArray} {key : ByteArray} {i : Nat} (hs : srt C) (hc : cutAt (bltAt C key) C.length i) (hh : hitS C key i = false) : srt (cutC C key i) := by
  have hi := hc.1
  refine srt_adj fun j hj => ?_
  rw [cutC_len hi] at hj
  rcases Nat.lt_trichotomy (j + 1) i with k | k | k
  · rw [cutC_lo hi (by omega), cutC_lo hi k]; exact hs j (j + 1) (by omega) (by omega)
  · subst k; rw [cutC_lo hi (by omega), cutC_at hi]; exact hc.2.1 j (by omega)
  · rcases Nat.eq_or_lt_of_le (show i ≤ j by omega) with e | e
    · subst e; rw [cutC_at hi, cutC_hi hi (Nat.le_refl _)]; exact cut_above hs hc hh _ (Nat.le_refl _) (by omega)
    · obtain ⟨m, rfl⟩ : ∃ m, j = m + 1 := ⟨j - 1, by omega⟩
      rw [cutC_hi hi (show i ≤ m by omega), cutC_hi hi (show i ≤ m + 1 by omega)]; exact hs m (m + 1) (by omega) (by omega)
theorem cut_ok {C : List ByteArray} {O : List Int} {key : ByteArray} {i : Nat} (ok : MapOk C O) (hk : keyB key = true) (hc : cutAt (bltAt C key) C.length i) (hh : hitS C key i = false) (hlt : C.length < 12) : MapOk (cutC C key i) (cutO O i) := by
  have hi := hc.1
  have hl := ok.len
  have hs := cutC_srt ok.srt hc hh
  refine ⟨by rw [cutC_len hi]; omega, by rw [cutC_len hi, cutO_len (by omega), hl], ?_, ownsOk_of fun n hn => ?_⟩
  · intro j hj
    have h1 : keyB (kAt (cutC C key i) j) = true := by
      rw [cutC_len hi] at hj
      rcases Nat.lt_trichotomy j i with k | k | k
      · rw [cutC_lo hi k, kAt_eq (show j < C.length by omega)]; exact cut_key ok.cut _ (List.getElem_mem _)
      · subst k; rw [cutC_at hi]; exact hk
      · obtain ⟨m, rfl⟩ : ∃ m, j = m + 1 := ⟨j - 1, by omega⟩
        rw [cutC_hi hi (show i ≤ m by omega), kAt_eq (show m < C.length by omega)]; exact cut_key ok.cut _ (List.getElem_mem _)
    cases j with
    | zero => simp [cutOk, h1]
    | succ j => simp [cutOk, h1, hs j (j + 1) (by omega) hj]
  · have hm := mem_range_of ok.own
    simp only [cutO, List.mem_append, List.mem_singleton] at hn
    rcases hn with (hn | hn) | hn
    · exact hm _ (List.mem_of_mem_take hn)
    · subst hn
      have e : O.getD i 0 = O[i] := by simp [show i < O.length by omega]
      rw [e]; exact hm _ (List.getElem_mem _)
    · exact hm _ (List.mem_of_mem_drop hn)
theorem cut_plc {C : List ByteArray} {key k : ByteArray} {i : Nat} (hs : srt C) (hc : cutAt (bltAt C key) C.length i) (hh : hitS C key i = false) :
    (blt k key = true ∧ plc C k ≤ i ∧ plc (cutC C key i) k = plc C k) ∨ (blt k key = false ∧ i ≤ plc C k ∧ plc (cutC C key i) k = plc C k + 1) := by
  have hi := hc.1
  have hp := plc_cut hs k
  obtain ⟨p1, p2, p3⟩ := hp
  cases hb : blt k key with
  | true =>
    have hle : plc C k ≤ i := by
      rcases Nat.lt_or_ge i (plc C k) with h | h
      · have a := p2 i h
        have b := cut_above hs hc hh i (Nat.le_refl _) (by omega)
        have := blt_trans hb b
        simp only [leAt, this] at a; cases a
      · exact h
    refine .inl ⟨rfl, hle, idx_spec _ _ _ ⟨by rw [cutC_len hi]; omega, fun j hj => ?_, fun j hj hjn => ?_⟩⟩
    · have := p2 j hj
      simp only [leAt] at this ⊢; rw [cutC_lo hi (by omega)]; exact this
    · rw [cutC_len hi] at hjn
      simp only [leAt]
      rcases Nat.lt_trichotomy j i with h | h | h
      · rw [cutC_lo hi h]; exact p3 j hj (by omega)
      · subst h; rw [cutC_at hi, hb]; rfl
      · obtain ⟨m, rfl⟩ : ∃ m, j = m + 1 := ⟨j - 1, by omega⟩
        rw [cutC_hi hi (show i ≤ m by omega)]
        exact p3 m (by omega) (by omega)
  | false =>
    have hge : i ≤ plc C k := by
      rcases Nat.lt_or_ge (plc C k) i with h | h
      · have a := p3 _ (Nat.le_refl _) (by omega)
        have b := hc.2.1 _ h
        simp only [bltAt] at b
        have := ble_trans (blt_asymm b) hb
        simp only [leAt, this] at a; cases a
      · exact h
    refine .inr ⟨rfl, hge, idx_spec _ _ _ ⟨by rw [cutC_len hi]; omega, fun j hj => ?_, fun j hj hjn => ?_⟩⟩
    · simp only [leAt]
      rcases Nat.lt_trichotomy j i with h | h | h
      · rw [cutC_lo hi h]; exact p2 j (by omega)
      · subst h; rw [cutC_at hi, hb]; rfl
      · obtain ⟨m, rfl⟩ : ∃ m, j = m + 1 := ⟨j - 1, by omega⟩
        rw [cutC_hi hi (show i ≤ m by omega)]
        exact p2 m (by omega)
    · rw [cutC_len hi] at hjn
      obtain ⟨m, rfl⟩ : ∃ m, j = m + 1 := ⟨j - 1, by omega⟩
      simp only [leAt]
      rw [cutC_hi hi (show i ≤ m by omega)]
      exact p3 m (by omega) (by omega)
theorem cut_whose {C : List ByteArray} {O : List Int} {key : ByteArray} {i : Nat} (ok : MapOk C O) (hc : cutAt (bltAt C key) C.length i) (hh : hitS C key i = false) (k : ByteArray) : whose (cutC C key i) (cutO O i) k = whose C O k := by
  have hl := ok.len
  have hi := hc.1
  rw [whose_plc, whose_plc]
  rcases cut_plc (k := k) ok.srt hc hh with ⟨_, h1, h2⟩ | ⟨_, h1, h2⟩
  · rw [h2, cutO_lo (by omega) h1]
  · rw [h2, cutO_hi (by omega) h1]
theorem cut_pl_lo {C : List ByteArray} {O : List Int} {key : ByteArray} {i : Nat} (hi : i ≤ C.length) (hl : O.length = C.length + 1) : ∀ k, k ≤ i → pl (cutC C key i) (cutO O i) k = pl C O k
  | 0, _ => by simp only [pl]; rw [cutO_lo (by omega) (Nat.zero_le _)]
  | k + 1, hk => by
    simp only [pl]
    rw [cut_pl_lo hi hl k (by omega), cutO_lo (by omega) hk, cutC_lo hi (by omega)]
theorem cut_pl_hi {C : List ByteArray} {O : List Int} {key : ByteArray} {i : Nat} (hi : i ≤ C.length) (hl : O.length = C.length + 1) : ∀ k, i ≤ k → k ≤ C.length → pl (cutC C key i) (cutO O i) (k + 1) = pl C O k := by
  intro k hk
  induction k with
  | zero =>
    intro _
    obtain rfl : i = 0 := by omega
    have a : (cutO O 0).getD (0 + 1) 0 = O.getD 0 0 := cutO_hi (by omega) (Nat.le_refl _)
    have b : (cutO O 0).getD 0 0 = O.getD 0 0 := cutO_lo (by omega) (Nat.le_refl _)
    have c : pl (cutC C key 0) (cutO O 0) 0 = pl C O 0 := by simp only [pl]; rw [b]
    show (if (cutO O 0).getD (0 + 1) 0 = lastO (pl (cutC C key 0) (cutO O 0) 0).2 then pl (cutC C key 0) (cutO O 0) 0 else _) = pl C O 0
    rw [c, a, if_pos (by rfl : O.getD 0 0 = lastO (pl C O 0).snd)]
  | succ k ih =>
    intro hkn
    rcases Nat.eq_or_lt_of_le hk with e | e
    · subst e
      have h := cut_pl_lo (key := key) hi hl (k + 1) (Nat.le_refl _)
      have hlast := pl_last C O (k + 1)
      rw [pl, h, cutO_hi (by omega) (Nat.le_refl _), hlast, if_pos rfl]
    · have h := ih (by omega) (by omega)
      rw [pl, h, cutO_hi (by omega) (show i ≤ k + 1 by omega), cutC_hi hi (show i ≤ k by omega)]
      simp only [pl]
theorem cut_pl {C : List ByteArray} {O : List Int} {key : ByteArray} {i : Nat} (ok : MapOk C O) (hi : i ≤ C.length) : pl (cutC C key i) (cutO O i) (cutC C key i).length = pl C O C.length := by
  rw [cutC_len hi]; exact cut_pl_hi hi ok.len _ hi (Nat.le_refl _)
theorem cut_small {C : List ByteArray} {key : ByteArray} {i : Nat} (h : ∀ x ∈ C, x.size ≤ 9223372036854775807) (hk : key.size ≤ 9223372036854775807) : ∀ x ∈ cutC C key i, x.size ≤ 9223372036854775807 := by
  intro x hx
  simp only [cutC, List.mem_append, List.mem_singleton] at hx
  rcases hx with (hx | hx) | hx
  · exact h _ (List.mem_of_mem_take hx)
  · subst hx; exact hk
  · exact h _ (List.mem_of_mem_drop hx)
end Go.Proofs.YtghemmmkbpfdhaaDoor
